/- The engine's fifth part: each operation that leaves the world alone does what was said. -/
import Derived.Test.YtdaidpomfkgbeaaE4
set_option linter.unusedSimpArgs false
set_option linter.unusedVariables false
namespace Go.Proofs.Pv
open Go Go.RowKit

section
variable {X : Cx} {N : Nat} {β : Bk} {st : St} {w : World} {s : Sl} {a : Act}

/-- It yields one value, in every world that has grown alone. -/
def Yld (X : Cx) (β : Bk) (w : World) (a : Act) (o : Oper) (st : St) (K : AV → St → Prop) : Prop :=
  ∃ v x, (∀ w', Below w.heap.size w w' → (execOp a.eval o).run X.P w' = .ok (.value v) w') ∧ VRel X.w0 β v x ∧ K x st

theorem inv_val {w0 : World} {q v : Value} (h : VRel w0 β q (.val v)) : q = v := by cases h; rfl
theorem inv_ptr {w0 : World} {q : Value} {r off : Nat} (h : VRel w0 β q (.ptr r off)) : ∃ b m, β[r]? = some (some (b, m)) ∧ q = .pointer (some ⟨b, off, none⟩) := by
  cases h with
  | ptr hb => exact ⟨_, _, hb, rfl⟩
theorem inv_imp {w0 : World} {q : Value} {cs : List AV} (h : VRel w0 β q (.imp cs)) : ∃ ad, q = .pointer (some ad) := by cases h; exact ⟨_, rfl⟩
theorem inv_im {w0 : World} {q : Value} {n : Nat} {cs : List AV} (h : VRel w0 β q (.im n cs)) : ∃ A c, q = .slice A n c ∧ n ≤ c ∧ n ≤ 9223372036854775807 := by
  cases h with
  | im u hn hc _ _ => exact ⟨_, _, rfl, hc, hn⟩
theorem inv_own {w0 : World} {q : Value} {r off n sz : Nat} (h : VRel w0 β q (.own r off n sz)) :
    n ≤ 9223372036854775807 ∧ ((∃ b m o c, β[r]? = some (some (b, m)) ∧ q = .slice (some ⟨b, o, none⟩) n c ∧ n ≤ c ∧ (0 < c → o = off ∧ off + c * sz ≤ m)) ∨ (β[r]? = some none ∧ q = .slice none 0 0 ∧ off = 0 ∧ n = 0)) := by
  cases h with
  | own hb hn hc ho => exact ⟨hn, .inl ⟨_, _, _, _, hb, rfl, hc, ho⟩⟩
  | nil hb => exact ⟨by omega, .inr ⟨hb, rfl, rfl, rfl⟩⟩
theorem inv_tup {w0 : World} {q : Value} {cs : List AV} (h : VRel w0 β q (.tup cs)) : ∃ vs : Array Value, q = .tuple vs ∧ vs.size = cs.length ∧ ∀ (j : Nat) u x, vs[j]? = some u → cs[j]? = some x → VRel w0 β u x := by
  cases h with
  | tup hs hv => exact ⟨_, rfl, hs, hv⟩
theorem inv_fn {w0 : World} {q : Value} {f : Fn} {xs ys : List AV} (h : VRel w0 β q (.fn f xs ys)) : ∃ as bs : Array Value, q = .func f as bs ∧ VRels w0 β as xs ∧ VRels w0 β bs ys := by
  cases h with
  | fn ha hav hb hbv => exact ⟨_, _, rfl, ⟨ha, hav⟩, ⟨hb, hbv⟩⟩

variable {o : Oper} {K : AV → St → Prop}

theorem y_mv {y : Operand} (hop : o.op = .move y ∨ o.op = .assign y) (hS : SRel X N β s a) (h : vcE X (.mv (ev s y)) st K) : Yld X β w a o st K := by
  refine ⟨a.eval y, ev s y, fun w' _ => ?_, hS.eval y, h⟩
  rcases hop with hop | hop <;> simp [execOp, hop]

theorem y_pick {c x y : Operand} (hop : o.op = .pick c x y) (hS : SRel X N β s a) (h : vcE X (.pick (ev s c) (ev s x) (ev s y)) st K) : Yld X β w a o st K := by
  have hc := hS.eval c
  unfold vcE at h
  simp only at h
  cases hcv : ev s c with
  | val v =>
    rw [hcv] at hc h
    cases v with
    | bool t =>
      cases hc' : a.eval c <;> rw [hc'] at hc <;> cases hc
      cases t with
      | true => exact ⟨a.eval x, ev s x, fun w' _ => by simp [execOp, hop, hc', asBool], hS.eval x, by simpa using h⟩
      | false => exact ⟨a.eval y, ev s y, fun w' _ => by simp [execOp, hop, hc', asBool], hS.eval y, by simpa using h⟩
    | _ => exact h.elim
  | _ => rw [hcv] at h; exact h.elim

theorem y_load {t : TypeId} {y : Operand} (hop : o.op = .load t y) (hI : Inv X β st w) (hS : SRel X N β s a) (h : vcE X (.load t (ev s y)) st K) : Yld X β w a o st K := by
  have hv := hS.eval y
  have fin : ∀ ad cs, a.eval y = .pointer (some ad) → Readable X.w0 β w ad cs → (ti X.P t).good = true → partA cs 0 (ti X.P t).size (ti X.P t).isAgg (fun x => K x st) → Yld X β w a o st K := by
    intro ad cs hy hR hg hp
    obtain ⟨v, x, h1, h2, h3⟩ := run_load_readable hg hR hp
    exact ⟨v, x, fun w' hb => by simp [execOp, hop, Instr.loadAt, Instr.sureAddr, hy, h1 w' hb], h2, h3⟩
  unfold vcE at h
  simp only at h
  cases hx : ev s y with
  | ptr r off =>
    rw [hx] at hv h
    simp only at h
    cases hv' : a.eval y <;> rw [hv'] at hv <;> cases hv
    rename_i b m hb
    cases hst : st[r]? with
    | none => simp [hst] at h
    | some c =>
      cases c with
      | none => simp [hst] at h
      | some cs =>
        simp only [hst] at h
        have hR := (readable_obj hI hst hb).drop off
        rw [add_none, Nat.zero_add] at hR
        exact fin _ _ hv' hR h.1 (partA_drop h.2)
  | imp cs =>
    rw [hx] at hv h
    simp only at h
    cases hv' : a.eval y <;> rw [hv'] at hv <;> cases hv
    rename_i ad u hr hv2
    exact fin _ _ hv' (readable_of_imp hI (.imp u hr hv2)) h.1 h.2
  | val v =>
    rw [hx] at hv h
    simp only at h
    obtain ⟨cs, hc, hl⟩ := h
    have hc' : VRel X.w0 β (a.eval y) (.imp cs) := by rw [inv_val hv]; simpa using hc.ext β
    obtain ⟨ad, hv'⟩ := inv_imp hc'
    exact fin _ _ hv' (readable_of_imp hI (hv' ▸ hc')) hl.1 hl.2
  | _ => rw [hx] at h; exact h.elim

theorem y_nilCk {y : Operand} (hop : o.op = .nilCheck y) (hS : SRel X N β s a) (h : vcE X (.nilCk (ev s y)) st K) : Yld X β w a o st K := by
  have hv := hS.eval y
  unfold vcE at h
  simp only at h
  refine ⟨a.eval y, ev s y, fun w' _ => ?_, hv, ?_⟩
  · cases hx : ev s y with
    | ptr r off => rw [hx] at hv; cases hv' : a.eval y <;> rw [hv'] at hv <;> cases hv; simp [execOp, hop, hv']
    | imp cs => rw [hx] at hv; cases hv' : a.eval y <;> rw [hv'] at hv <;> cases hv; simp [execOp, hop, hv']
    | fn f xs ys =>
      rw [hx] at hv h
      cases f with
      | func g => cases hv' : a.eval y <;> rw [hv'] at hv <;> cases hv; simp [execOp, hop, hv']
      | _ => exact h.elim
    | val v =>
      rw [hx] at hv h
      cases v with
      | pointer p =>
        cases p with
        | none => exact h.elim
        | some ad => cases hv' : a.eval y <;> rw [hv'] at hv <;> cases hv; simp [execOp, hop, hv']
      | _ => exact h.elim
    | _ => rw [hx] at h; exact h.elim
  · cases hx : ev s y with
    | fn f xs ys => rw [hx] at h; cases f <;> first | exact h | exact h.elim
    | val v =>
      rw [hx] at h
      cases v with
      | pointer p => cases p <;> first | exact h | exact h.elim
      | _ => exact h.elim
    | ptr r off => rw [hx] at h; exact h
    | imp cs => rw [hx] at h; exact h
    | _ => rw [hx] at h; exact h.elim

theorem binI_run {op : BinOp} {k : IntKind} {x y : Int} {Kv : Value → Prop} (h : binI op k x y Kv) (t : TypeId) :
    ∃ r, (∀ w', (binOp op t (.int k x) (.int k y)).run X.P w' = .ok r w') ∧ Kv r := by
  cases op <;> simp only [binI] at h
  case quo => exact ⟨_, fun w' => by simp [binOp, Op.intDiv, h.1], h.2⟩
  case rem => exact ⟨_, fun w' => by simp [binOp, Op.intDiv, h.1], h.2⟩
  case shl => exact ⟨_, fun w' => by simp [binOp, Op.shift, Int.not_lt.2 h.1], h.2⟩
  case shr =>
    refine ⟨_, fun w' => ?_, h.2⟩
    simp only [binOp, Op.shift, Int.not_lt.2 h.1, if_false]
    rw [Int.fdiv_eq_ediv_of_nonneg _ (Int.le_of_lt (Int.pow_pos (by decide)))]
    rfl
  case and => exact ⟨_, fun w' => by simp [binOp, Op.intBits, bitV], h⟩
  case or => exact ⟨_, fun w' => by simp [binOp, Op.intBits, bitV], h⟩
  case xor => exact ⟨_, fun w' => by simp [binOp, Op.intBits, bitV], h⟩
  case andNot => exact ⟨_, fun w' => by simp [binOp, Op.intBits, bitV], h⟩
  all_goals exact ⟨_, fun w' => by simp [binOp, Op.intArith, Op.intCmp], h⟩

theorem eqGuard_int {op : BinOp} {t : TypeId} {x y : Operand} {k k' : IntKind} {p q : Int} {w' : World} : (eqGuard op t x y (.int k p) (.int k' q)).run X.P w' = .ok () w' := by
  unfold eqGuard; split <;> simp
theorem eqGuard_bool {op : BinOp} {t : TypeId} {x y : Operand} {p q : Bool} {w' : World} : (eqGuard op t x y (.bool p) (.bool q)).run X.P w' = .ok () w' := by
  unfold eqGuard; split <;> simp
theorem eqGuard_str {op : BinOp} {t : TypeId} {x y : Operand} {p q : ByteArray} {w' : World} : (eqGuard op t x y (.string p) (.string q)).run X.P w' = .ok () w' := by
  unfold eqGuard; split <;> simp

theorem equal_bool {t : TypeId} (hu : X.P.underlying t = some .bool) (p q : Bool) (w' : World) : (Op.equal t (.bool p) (.bool q)).run X.P w' = .ok (p == q) w' := by
  have h : ∀ d, (Op.equalIn (d + 1) t (.bool p) (.bool q)).run X.P w' = .ok (p == q) w' := fun d => by
    simp only [Op.equalIn, Sem.run_bind, run_underlying hu, Result.andThen_ok, Sem.run_pure]
  exact h 9999
theorem binOp_eql_bool {t : TypeId} {p q : Bool} : binOp .eql t (.bool p) (.bool q) = (do pure (.bool (← Op.equal t (.bool p) (.bool q)))) := rfl
theorem binOp_neq_bool {t : TypeId} {p q : Bool} : binOp .neq t (.bool p) (.bool q) = (do pure (.bool (!(← Op.equal t (.bool p) (.bool q))))) := rfl

theorem binV_run {op : BinOp} {u v : Value} {Kv : Value → Prop} {t : TypeId} (h : binV (ti X.P t).isB op u v Kv) :
    ∃ r, (∀ w', (binOp op t u v).run X.P w' = .ok r w' ∧ ∀ x y, (eqGuard op t x y u v).run X.P w' = .ok () w') ∧ Kv r := by
  cases u with
  | int k p =>
    cases v with
    | int k' q =>
      have key : k = k' → binI op k p q Kv → ∃ r, (∀ w', (binOp op t (.int k p) (.int k' q)).run X.P w' = .ok r w' ∧ ∀ x y, (eqGuard op t x y (.int k p) (.int k' q)).run X.P w' = .ok () w') ∧ Kv r := by
        intro hk hb
        subst hk
        obtain ⟨r, h1, h2⟩ := binI_run (X := X) hb t
        exact ⟨r, fun w' => ⟨h1 w', fun _ _ => eqGuard_int⟩, h2⟩
      cases op with
      | shl =>
        simp only [binV, binI] at h
        exact ⟨_, fun w' => ⟨by simp [binOp, Op.shift, Int.not_lt.2 h.1], fun _ _ => eqGuard_int⟩, h.2⟩
      | shr =>
        simp only [binV, binI] at h
        refine ⟨_, fun w' => ⟨?_, fun _ _ => eqGuard_int⟩, h.2⟩
        simp only [binOp, Op.shift, Int.not_lt.2 h.1, if_false]
        rw [Int.fdiv_eq_ediv_of_nonneg _ (Int.le_of_lt (Int.pow_pos (by decide)))]
        rfl
      | _ => exact key h.1 h.2
    | _ => exact h.elim
  | bool p =>
    cases v with
    | bool q =>
      cases op with
      | eql => exact ⟨_, fun w' => ⟨by simp only [binOp_eql_bool, Sem.run_bind, equal_bool (ti_isB h.1), Result.andThen_ok, Sem.run_pure], fun _ _ => eqGuard_bool⟩, h.2⟩
      | neq => exact ⟨_, fun w' => ⟨by simp only [binOp_neq_bool, Sem.run_bind, equal_bool (ti_isB h.1), Result.andThen_ok, Sem.run_pure]; rfl, fun _ _ => eqGuard_bool⟩, h.2⟩
      | _ => exact h.elim
    | _ => exact h.elim
  | string p =>
    cases v with
    | string q =>
      cases op with
      | add =>
        simp only [binV] at h
        refine ⟨_, fun w' => ⟨?_, fun _ _ => eqGuard_str⟩, h.2⟩
        simp [binOp, Op.stringOp]
        omega
      | eql => exact ⟨_, fun w' => ⟨by simp [binOp, Op.stringOp], fun _ _ => eqGuard_str⟩, h⟩
      | neq => exact ⟨_, fun w' => ⟨by simp [binOp, Op.stringOp], fun _ _ => eqGuard_str⟩, h⟩
      | _ => exact h.elim
    | _ => exact h.elim
  | _ => exact h.elim

theorem y_bin {b : BinOp} {t t' : TypeId} {x y : Operand} (hop : o.op = .binOp b t x y t') (hS : SRel X N β s a) (h : vcE X (.bin b t (ev s x) (ev s y)) st K) : Yld X β w a o st K := by
  have hx := hS.eval x
  have hy := hS.eval y
  unfold vcE at h
  simp only at h
  cases hxv : ev s x with
  | val u =>
    cases hyv : ev s y with
    | val v =>
      rw [hxv] at hx
      rw [hyv] at hy
      simp only [hxv, hyv] at h
      obtain ⟨r, h1, h2⟩ := binV_run (X := X) h
      exact ⟨r, .val r, fun w' _ => by simp [execOp, hop, inv_val hx, inv_val hy, (h1 w').1, (h1 w').2 x y], .val r, h2⟩
    | _ => simp only [hxv, hyv] at h
  | _ => simp only [hxv] at h

theorem y_un {u : UnOp} {t : TypeId} {x : Operand} (hop : o.op = .unOp u t x) (hS : SRel X N β s a) (h : vcE X (.un u (ev s x)) st K) : Yld X β w a o st K := by
  have hx := hS.eval x
  unfold vcE at h
  simp only at h
  cases hxv : ev s x with
  | val v =>
    rw [hxv] at hx
    have hx := inv_val hx
    cases u <;> cases v <;> simp only [hxv] at h
    case neg.int k n => exact ⟨_, _, fun w' _ => by simp [execOp, hop, hx, Op.unary, Op.intArith], .val _, h⟩
    case not.bool q => exact ⟨_, _, fun w' _ => by simp [execOp, hop, hx, Op.unary], .val _, h⟩
    case xor.int k n => exact ⟨_, _, fun w' _ => by simp [execOp, hop, hx, Op.unary, Op.intBits, bitV], .val _, h⟩
  | _ => cases u <;> simp only [hxv] at h

theorem y_mkFn {f : Fn} {xs ys : Array Operand} (hop : o.op = .makeFunc f xs ys) (hS : SRel X N β s a) (h : vcE X (.mkFn f (xs.toList.map (ev s)) (ys.toList.map (ev s))) st K) : Yld X β w a o st K := by
  have key : ∀ zs : Array Operand, (zs.map a.eval).size = (zs.toList.map (ev s)).length ∧ ∀ (j : Nat) v x, (zs.map a.eval)[j]? = some v → (zs.toList.map (ev s))[j]? = some x → VRel X.w0 β v x := by
    intro zs
    refine ⟨by simp, fun j v x hv hx => ?_⟩
    simp only [Array.getElem?_map, List.getElem?_map, Array.getElem?_toList] at hv hx
    cases hz : zs[j]? with
    | none => simp [hz] at hv
    | some z =>
      simp [hz] at hv hx
      subst hv; subst hx
      exact hS.eval z
  refine ⟨.func f (xs.map a.eval) (ys.map a.eval), _, fun w' _ => by simp [execOp, hop, Instr.makeFunc], .fn (key xs).1 (key xs).2 (key ys).1 (key ys).2, h⟩

theorem y_extract {x : Operand} {i : Nat} (hop : o.op = .extract x i) (hS : SRel X N β s a) (h : vcE X (.extract (ev s x) i) st K) : Yld X β w a o st K := by
  have hx := hS.eval x
  unfold vcE at h
  simp only at h
  cases hxv : ev s x with
  | tup vs =>
    rw [hxv] at hx
    simp only [hxv] at h
    obtain ⟨us, hu, hs, hv⟩ := inv_tup hx
    cases hi : vs[i]? with
    | none => simp [hi] at h
    | some y =>
      simp only [hi] at h
      have hlt : i < us.size := by rw [hs]; exact (List.getElem?_eq_some_iff.1 hi).1
      have hui : us[i]? = some us[i] := Array.getElem?_eq_getElem hlt
      refine ⟨us[i], y, fun w' _ => ?_, hv i _ _ hui hi, h⟩
      simp [execOp, hop, hu, Instr.extract, hui]
  | _ => simp only [hxv] at h

/-- A slice's cells are there. -/
theorem slc_read (hI : Inv X β st w) {q : Value} {x : AV} {n : Nat} {cs : List AV} (hv : VRel X.w0 β q x) (h : slc st x = some (n, cs)) :
    n ≤ 9223372036854775807 ∧ ∃ A c, q = .slice A n c ∧ (0 < cs.length → ∃ ad, A = some ad ∧ Readable X.w0 β w ad cs) := by
  cases x with
  | im n' cs' =>
    simp only [slc, Option.some.injEq, Prod.mk.injEq] at h
    obtain ⟨rfl, rfl⟩ := h
    obtain ⟨A, c, rfl, h1, h2⟩ := inv_im hv
    exact ⟨h2, A, c, rfl, fun h0 => readable_im hI hv h0⟩
  | own r off n' sz =>
    simp only [slc] at h
    cases hst : st[r]? with
    | none => simp [hst] at h
    | some o' =>
      cases o' with
      | none => simp [hst] at h
      | some cs' =>
        simp only [hst, Option.some.injEq, Prod.mk.injEq] at h
        obtain ⟨rfl, rfl⟩ := h
        obtain ⟨hn, ⟨b, m, of, c, hb, rfl, hnc, ho⟩ | ⟨hb, rfl, rfl, rfl⟩⟩ := inv_own hv
        · refine ⟨hn, _, c, rfl, fun h0 => ⟨_, rfl, ?_⟩⟩
          have hpos : 0 < n' := by
            rcases Nat.eq_zero_or_pos n' with h' | h'
            · subst h'; simp at h0
            · exact h'
          obtain ⟨rfl, _⟩ := ho (by omega)
          have hR := (readable_obj hI hst hb).drop of
          rw [add_none, Nat.zero_add] at hR
          obtain ⟨u, h1, h2⟩ := hR
          exact ⟨u, fun j hj w' hb' => h1 j (by simp at hj ⊢; omega) w' hb', fun j x hx => h2 j x (by rw [List.getElem?_take] at hx; split at hx <;> first | exact hx | cases hx)⟩
        · exact ⟨by omega, _, _, rfl, fun h0 => by simp at h0⟩
  | val v =>
    rw [inv_val hv]
    cases v with
    | slice A p c =>
      unfold slc at h
      split at h
      · rename_i he; cases he
      · rename_i he; cases he
      · rename_i he
        cases he
        cases h
        exact ⟨by decide, _, _, rfl, fun h0 => by simp at h0⟩
      · cases h
    | _ => simp [slc] at h
  | _ => simp [slc] at h

theorem fold_push (bs : List UInt8) : ∀ acc : ByteArray, List.foldl (fun (b : ByteArray) x => b.push x) acc bs = ⟨acc.data ++ bs.toArray⟩ := by
  induction bs with
  | nil => intro acc; simp
  | cons b bs ih => intro acc; rw [List.foldl_cons, ih]; simp [ByteArray.push]

theorem y_conv {t t' : TypeId} {x : Operand} (hop : o.op = .convert t t' x) (hI : Inv X β st w) (hS : SRel X N β s a) (h : vcE X (.conv t t' (ev s x)) st K) : Yld X β w a o st K := by
  have hx := hS.eval x
  unfold vcE at h
  simp only at h
  split at h
  · rename_i k z k' z' v n h1 h2 hxv
    rw [hxv] at hx
    have hx := inv_val hx
    have hu := ti_int h1
    have hu' := ti_int h2
    exact ⟨_, _, fun w' _ => by simp [execOp, hop, convert, run_underlying hu, run_underlying hu', hx, Conv.intToInt], .val _, h⟩
  · rename_i e sz by_ ez z z' y h1 h2
    obtain ⟨zz, he, bs, hs, hK⟩ := h
    obtain ⟨hu, _⟩ := ti_slice h1
    have hu' := ti_str h2
    have hue := ti_int he
    obtain ⟨hn, A, c, hq, hR⟩ := slc_read hI hx hs
    refine ⟨_, _, fun w' hb => ?_, .val _, hK⟩
    by_cases hbs : bs = []
    · subst hbs
      cases A with
      | none => simp [execOp, hop, convert, run_underlying hu, run_underlying hu', run_underlying hue, hq, Conv.bytesToString]; rfl
      | some ad => simp [execOp, hop, convert, run_underlying hu, run_underlying hu', run_underlying hue, hq, Conv.bytesToString, loadCells, loadCellsFrom]; rfl
    · obtain ⟨ad, rfl, u, h1, h2⟩ := hR (by simpa using List.length_pos_iff.2 hbs)
      have hl := run_loadCells_list (P := X.P) w' ad (bs.map fun b => Value.int .u8 (b.toNat : Int)) (fun j v hv => by
        have hj : j < bs.length := by have := (List.getElem?_eq_some_iff.1 hv).1; simpa using this
        have h3 := h2 j (.val (.int .u8 (bs[j].toNat : Int))) (by rw [List.getElem?_map, List.getElem?_eq_getElem hj]; rfl)
        rw [h1 j (by simpa using hj) w' hb, inv_val h3]
        rw [List.getElem?_map, List.getElem?_eq_getElem hj] at hv
        exact hv)
      rw [List.length_map] at hl
      simp [execOp, hop, convert, run_underlying hu, run_underlying hu', run_underlying hue, hq, Conv.bytesToString, hl]
      rw [fold_push]
      simp [ByteArray.empty, ByteArray.emptyWithCapacity]
      rfl
  · exact h.elim

theorem y_fAddr {t : TypeId} {x : Operand} {i : Nat} (hop : o.op = .fieldAddr t x i) (hS : SRel X N β s a) (h : vcE X (.fAddr t (ev s x) i) st K) : Yld X β w a o st K := by
  have hx := hS.eval x
  unfold vcE at h
  simp only at h
  cases ht : ti X.P t with
  | struct fs sz z =>
    simp only [ht] at h
    obtain ⟨f, hu, hf, hall⟩ := ti_struct ht
    cases hi : fs[i]? with
    | none => simp [hi] at h
    | some q =>
      obtain ⟨of, sz', ag⟩ := q
      simp only [hi] at h
      obtain ⟨h0, h⟩ := h
      rw [← hf, List.getElem?_map] at hi
      cases hfi : f.toList[i]? with
      | none => simp [hfi] at hi
      | some fd =>
        simp only [hfi, Option.map_some, Option.some.injEq, Prod.mk.injEq] at hi
        obtain ⟨e1, e2, e3⟩ := hi
        have hfi' : f[i]? = some fd := by simpa using hfi
        have hsz : ∀ w', (sizeOf fd.type).run X.P w' = .ok sz' w' := fun w' => by
          unfold szOf at e2
          cases hin : X.P.info? fd.type with
          | none => rw [hin] at e2; simp only at e2; omega
          | some inf => rw [hin] at e2; simp only at e2; simp [sizeOf, typeInfo, hin, e2]
        have run : ∀ ad w', a.eval x = .pointer (some ad) → (execOp a.eval o).run X.P w' = .ok (.value (.pointer (some (ad.add of)))) w' := fun ad w' hv => by
          simp [execOp, hop, Instr.fieldAt, run_underlying hu, hfi', Instr.sureAddr, hv, fieldPlace, hsz, show ¬ sz' = 0 by omega, e1]
        cases hxv : ev s x with
        | ptr r off =>
          simp only [hxv] at h
          rw [hxv] at hx
          obtain ⟨b, m, hb, hq⟩ := inv_ptr hx
          exact ⟨_, _, fun w' _ => by rw [run _ w' hq, add_none], .ptr hb, h⟩
        | imp cs =>
          simp only [hxv] at h
          rw [hxv] at hx
          obtain ⟨ad, hq⟩ := inv_imp hx
          refine ⟨_, _, fun w' _ => run _ w' hq, ?_, h⟩
          rw [hq] at hx
          cases hx with
          | imp u hr hv => exact .imp (fun j => u (of + j)) (fun j hj => by rw [add_add]; exact hr _ (by simp at hj; omega)) (fun j x hx => hv _ _ (by simpa using hx))
        | _ => simp only [hxv] at h
  | _ => simp only [ht] at h

theorem y_iAddr {t : TypeId} {x i : Operand} (hop : o.op = .indexAddr t x i) (hS : SRel X N β s a) (h : vcE X (.iAddr t (ev s x) (ev s i)) st K) : Yld X β w a o st K := by
  have hx := hS.eval x
  have hi := hS.eval i
  unfold vcE at h
  simp only at h
  cases hiv : ev s i with
  | val v =>
    cases v with
    | int k j =>
      rw [hiv] at hi
      have hi := inv_val hi
      simp only [hiv] at h
      cases ht : ti X.P t with
      | slice e sz by_ ez z =>
        simp only [ht] at h
        obtain ⟨hu, inf, y, hinf, hsz, _, _, _, _, _⟩ := ti_slice ht
        have run : ∀ ad n c w', a.eval x = .slice (some ad) n c → 0 ≤ j → j < n → (execOp a.eval o).run X.P w' = .ok (.value (.pointer (some (ad.add (j.toNat * sz))))) w' := fun ad n c w' hv h0 h1 => by
          simp [execOp, hop, Instr.indexAt, hi, asIntOf, run_underlying hu, hv, h0, h1, sizeOf, typeInfo, hinf, hsz]
        cases hxv : ev s x with
        | im n cs =>
          simp only [hxv] at h
          rw [hxv] at hx
          obtain ⟨h0, h1, h2, hK⟩ := h
          obtain ⟨A, c, hq, hnc, _⟩ := inv_im hx
          rw [hq] at hx
          cases hx with
          | im u hn hc hr hv =>
            obtain ⟨ad, rfl, _⟩ := hr _ h2
            refine ⟨_, _, fun w' _ => run ad n c w' hq h0 h1, .imp (fun q => u (j.toNat * sz + q)) (fun q hq' => ?_) (fun q x hx => hv _ _ (by simpa using hx)), hK⟩
            obtain ⟨ad', e1, e2⟩ := hr (j.toNat * sz + q) (by simp at hq'; omega)
            cases e1
            rw [add_add]; exact e2
        | own r off n s' =>
          simp only [hxv] at h
          rw [hxv] at hx
          obtain ⟨e1, h0, h1, hK⟩ := h
          obtain ⟨hn, ⟨b, m, of, c, hb, hq, hnc, ho⟩ | ⟨hb, hq, e2, e3⟩⟩ := inv_own hx
          · obtain ⟨e4, _⟩ := ho (by omega)
            exact ⟨_, _, fun w' _ => by rw [run _ n c w' hq h0 h1, add_none, e4], .ptr hb, hK⟩
          · omega
        | _ => simp only [hxv] at h
      | arr n esz sz ea z =>
        simp only [ht] at h
        obtain ⟨e, inf, hu, hinf, hsz, _, _⟩ := ti_arr ht
        obtain ⟨h0, h1, h⟩ := h
        have run : ∀ ad w', a.eval x = .pointer (some ad) → (execOp a.eval o).run X.P w' = .ok (.value (.pointer (some (ad.add (j.toNat * esz))))) w' := fun ad w' hv => by
          simp [execOp, hop, Instr.indexAt, hi, asIntOf, run_underlying hu, hv, h0, h1, sizeOf, typeInfo, hinf, hsz, Instr.sureAddr]
        have imp : ∀ ad cs, VRel X.w0 β (.pointer (some ad)) (.imp cs) → VRel X.w0 β (.pointer (some (ad.add (j.toNat * esz)))) (.imp (cs.drop (j.toNat * esz))) := fun ad cs hv => by
          cases hv with
          | imp u hr hv => exact .imp (fun q => u (j.toNat * esz + q)) (fun q hq => by rw [add_add]; exact hr _ (by simp at hq; omega)) (fun q x hx => hv _ _ (by simpa using hx))
        cases hxv : ev s x with
        | ptr r off =>
          simp only [hxv] at h
          rw [hxv] at hx
          obtain ⟨b, m, hb, hq⟩ := inv_ptr hx
          exact ⟨_, _, fun w' _ => by rw [run _ w' hq, add_none], .ptr hb, h⟩
        | imp cs =>
          simp only [hxv] at h
          rw [hxv] at hx
          obtain ⟨ad, hq⟩ := inv_imp hx
          exact ⟨_, _, fun w' _ => run _ w' hq, imp ad cs (hq ▸ hx), h⟩
        | val v =>
          simp only [hxv] at h
          rw [hxv] at hx
          obtain ⟨cs, hc, hK⟩ := h
          have hc' : VRel X.w0 β (a.eval x) (.imp cs) := by rw [inv_val hx]; simpa using hc.ext β
          obtain ⟨ad, hq⟩ := inv_imp hc'
          exact ⟨_, _, fun w' _ => run _ w' hq, imp ad cs (hq ▸ hc'), hK⟩
        | _ => simp only [hxv] at h
      | _ => simp only [ht] at h
    | _ => simp only [hiv] at h
  | _ => simp only [hiv] at h

theorem cut_im {w0 : World} {A : Option Addr} {n c l h sz : Nat} {cs : List AV} (hx : VRel w0 β (.slice A n c) (.im n cs)) (h1 : l ≤ h) (h2 : h ≤ n) :
    VRel w0 β (.slice (if c = l then A else A.map (·.add (l * sz))) (h - l) (c - l)) (.im (h - l) ((cs.drop (l * sz)).take ((h - l) * sz))) := by
  cases hx with
  | im u hn hc hr hv =>
    by_cases hcl : c = l
    · have : h - l = 0 := by omega
      rw [this]
      exact .im u (by omega) (by omega) (fun j hj => by simp at hj) (fun j x hx => by simp at hx)
    · rw [if_neg hcl]
      refine .im (fun j => u (l * sz + j)) (by omega) (by omega) (fun j hj => ?_) (fun j x hx => ?_)
      · obtain ⟨ad, e1, e2⟩ := hr (l * sz + j) (by simp at hj; omega)
        exact ⟨ad.add (l * sz), by rw [e1]; rfl, by rw [add_add]; exact e2⟩
      · rw [List.getElem?_take] at hx
        split at hx
        · exact hv _ _ (by simpa using hx)
        · cases hx

theorem cut_own {w0 : World} {q : Value} {r off n l h sz : Nat} (hx : VRel w0 β q (.own r off n sz)) (h1 : l ≤ h) (h2 : h ≤ n) :
    ∃ A c, q = .slice A n c ∧ n ≤ c ∧ VRel w0 β (.slice (if c = l then A else A.map (·.add (l * sz))) (h - l) (c - l)) (.own r (off + l * sz) (h - l) sz) := by
  obtain ⟨hn, ⟨b, m, of, c, hb, rfl, hnc, ho⟩ | ⟨hb, rfl, rfl, rfl⟩⟩ := inv_own hx
  · refine ⟨_, c, rfl, hnc, ?_⟩
    by_cases hcl : c = l
    · rw [if_pos hcl]
      exact .own hb (by omega) (by omega) (fun h0 => by omega)
    · rw [if_neg hcl]
      obtain ⟨rfl, hm⟩ := ho (by omega)
      simp only [Option.map_some, add_none]
      refine .own hb (by omega) (by omega) (fun h0 => ⟨rfl, ?_⟩)
      have : (c - l) * sz + l * sz = c * sz := by rw [← Nat.add_mul]; congr 1; omega
      omega
  · refine ⟨none, 0, rfl, by omega, ?_⟩
    have e1 : l = 0 := by omega
    have e2 : h = 0 := by omega
    subst e1; subst e2
    simpa using VRel.nil (w0 := w0) (sz := sz) hb

theorem sliceB_run {lo hi : Option Operand} {n c : Nat} (isS : Bool) (hnc : n ≤ c) (hS : SRel X N β s a) {F : Nat → Nat → Prop} (h : sliceB (lo.map (ev s)) (hi.map (ev s)) n F) :
    ∃ l h', (∀ w', (Instr.sliceBounds isS n c (lo.map a.eval) (hi.map a.eval) none).run X.P w' = .ok (l, h', c) w') ∧ l ≤ h' ∧ h' ≤ n ∧ F l h' := by
  have val : ∀ (y : Operand) v, ev s y = .val v → a.eval y = v := fun y v e => inv_val (e ▸ hS.eval y)
  unfold sliceB at h
  cases lo with
  | none =>
    cases hi with
    | none => exact ⟨0, n, fun w' => by simp [Instr.sliceBounds], by omega, by omega, h⟩
    | some y =>
      simp only [Option.map_some, Option.map_none] at h
      split at h
      · rename_i e1 e2; cases e2
      · rename_i e1 e2; cases e2
      · rename_i k q e1 e2
        have hv := val y _ (by simpa using e2)
        refine ⟨0, q.toNat, fun w' => ?_, by omega, by omega, h.2.2⟩
        have h1 : q ≤ (c : Int) := by omega
        simp [Instr.sliceBounds, Instr.sliceBound, asIntOf, hv, h.1, h1]
      · rename_i e1 e2; cases e1
      · exact h.elim
  | some x =>
    cases hi with
    | none =>
      simp only [Option.map_some, Option.map_none] at h
      split at h
      · rename_i e1 e2; cases e1
      · rename_i k q e1 e2
        have hv := val x _ (by simpa using e1)
        refine ⟨q.toNat, n, fun w' => ?_, by omega, by omega, h.2.2⟩
        simp [Instr.sliceBounds, Instr.sliceBound, asIntOf, hv, h.1, h.2.1]
      · rename_i e1 e2; cases e1
      · rename_i e1 e2; cases e2
      · exact h.elim
    | some y =>
      simp only [Option.map_some] at h
      split at h
      · rename_i e1 e2; cases e1
      · rename_i e1 e2; cases e2
      · rename_i e1 e2; cases e1
      · rename_i k q k' q' e1 e2
        have hv := val x _ (by simpa using e1)
        have hv' := val y _ (by simpa using e2)
        obtain ⟨h0, h1, h2, hF⟩ := h
        refine ⟨q.toNat, q'.toNat, fun w' => ?_, by omega, by omega, hF⟩
        have h3 : q' ≤ (c : Int) := by omega
        have h4 : 0 ≤ q' := by omega
        simp [Instr.sliceBounds, Instr.sliceBound, asIntOf, hv, hv', h0, h3, h4]
        intro hh
        omega
      · exact h.elim

theorem y_slice {t : TypeId} {x : Operand} {lo hi mx : Option Operand} (hop : o.op = .slice t x lo hi mx) (hS : SRel X N β s a)
    (h : vcE X (.slice t (ev s x) (lo.map (ev s)) (hi.map (ev s)) (mx.map (ev s))) st K) : Yld X β w a o st K := by
  have hx := hS.eval x
  unfold vcE at h
  simp only at h
  cases mx with
  | some m => exact h.elim
  | none =>
    simp only [Option.map_none] at h
    split at h
    · rename_i z q ht hxv
      rw [hxv] at hx
      have hx := inv_val hx
      have hu := ti_str ht
      obtain ⟨l, h', hr, h1, h2, hK⟩ := sliceB_run (c := q.size) false (Nat.le_refl _) hS h
      exact ⟨_, _, fun w' _ => by simp [execOp, hop, Instr.sliceAt, Instr.slice, run_underlying hu, hx, hr w'], .val _, hK⟩
    · rename_i e sz by_ ez z n cs ht hxv
      rw [hxv] at hx
      obtain ⟨hu, inf, y, hinf, hsz, _⟩ := ti_slice ht
      obtain ⟨A, c, hq, hnc, _⟩ := inv_im hx
      obtain ⟨l, h', hr, h1, h2, hK⟩ := sliceB_run (c := c) true hnc hS h
      rw [hq] at hx
      exact ⟨_, _, fun w' _ => by simp [execOp, hop, Instr.sliceAt, Instr.slice, run_underlying hu, hq, hr w', sizeOf, typeInfo, hinf, hsz], cut_im hx h1 h2, hK⟩
    · rename_i e sz by_ ez z r off n s' ht hxv
      rw [hxv] at hx
      obtain ⟨hu, inf, y, hinf, hsz, _⟩ := ti_slice ht
      obtain ⟨e1, h⟩ := h
      subst e1
      obtain ⟨A, c, hq, hnc, _⟩ := cut_own (l := 0) (h := 0) hx (by omega) (by omega)
      obtain ⟨l, h', hr, h1, h2, hK⟩ := sliceB_run (c := c) true hnc hS h
      obtain ⟨A', c', hq', _, hv⟩ := cut_own hx h1 h2
      rw [hq] at hq'
      cases hq'
      exact ⟨_, _, fun w' _ => by simp [execOp, hop, Instr.sliceAt, Instr.slice, run_underlying hu, hq, hr w', sizeOf, typeInfo, hinf, hsz], hv, hK⟩
    · rename_i e sz by_ ez z ht hxv
      rw [hxv] at hx
      have hx := inv_val hx
      obtain ⟨hu, inf, y, hinf, hsz, _⟩ := ti_slice ht
      obtain ⟨l, h', hr, h1, h2, hK⟩ := sliceB_run (c := 0) true (Nat.le_refl _) hS h
      have e1 : l = 0 := by omega
      have e2 : h' = 0 := by omega
      subst e1; subst e2
      exact ⟨_, _, fun w' _ => by simp [execOp, hop, Instr.sliceAt, Instr.slice, run_underlying hu, hx, hr w', sizeOf, typeInfo, hinf]; rfl, by rw [hxv]; exact .val _, hK⟩
    · exact h.elim

theorem partA_run {w0 : World} {vs : Array Value} {cs : List AV} (hs : vs.size = cs.length) (hv : ∀ (j : Nat) u x, vs[j]? = some u → cs[j]? = some x → VRel w0 β u x) {t : TypeId} {off sz : Nat} {ag : Bool}
    (hsz : ∀ w', (sizeOf t).run X.P w' = .ok sz w') (hag : ∀ w', (isAgg t).run X.P w' = .ok ag w') {Kv : AV → Prop} (h : partA cs off sz ag Kv) :
    ∃ v x, (∀ w', (part t vs off).run X.P w' = .ok v w') ∧ VRel w0 β v x ∧ Kv x := by
  unfold partA at h
  cases ag with
  | true =>
    simp only [if_true] at h
    obtain ⟨hl, hK⟩ := h
    refine ⟨_, _, fun w' => by simp only [part, Sem.run_bind, hag, Result.andThen_ok, if_true, hsz, Sem.run_pure], .agg (vs := vs.extract off (off + sz)) (by simp; omega) (fun j u x hu hx => ?_), hK⟩
    rw [List.getElem?_take] at hx
    split at hx
    · rename_i hj
      refine hv (off + j) u x ?_ (by simpa using hx)
      rw [Array.getElem?_extract] at hu
      split at hu
      · exact hu
      · cases hu
    · cases hx
  | false =>
    simp only [Bool.false_eq_true, if_false] at h
    cases hc : cs[off]? with
    | none => simp [hc] at h
    | some x =>
      simp only [hc] at h
      have hlt : off < vs.size := by rw [hs]; exact (List.getElem?_eq_some_iff.1 hc).1
      have hu : vs[off]? = some vs[off] := Array.getElem?_eq_getElem hlt
      exact ⟨_, _, fun w' => by simp only [part, Sem.run_bind, hag, Result.andThen_ok, Bool.false_eq_true, if_false, hu, Sem.run_pure], hv off _ _ hu hc, h⟩

theorem run_aggT {t : TypeId} {d : TypeDesc} (hd : X.P.underlying t = some d) (w' : World) : (isAgg t).run X.P w' = .ok (aggT X.P t) w' := by
  unfold aggT
  rw [hd]
  simp only [isAgg, Sem.run_bind, run_underlying hd, Result.andThen_ok]
  cases d <;> rfl

theorem y_field {t : TypeId} {x : Operand} {i : Nat} (hop : o.op = .field t x i) (hS : SRel X N β s a) (h : vcE X (.field t (ev s x) i) st K) : Yld X β w a o st K := by
  have hx := hS.eval x
  unfold vcE at h
  simp only at h
  split at h
  · rename_i fs sz z cs ht hxv
    obtain ⟨f, hu, hf, hall⟩ := ti_struct ht
    rw [hxv] at hx
    obtain ⟨vs, hq, hs, hv⟩ := cells_of_agg hx
    cases hi : fs[i]? with
    | none => simp [hi] at h
    | some q =>
      obtain ⟨of, sz', ag⟩ := q
      simp only [hi] at h
      rw [← hf, List.getElem?_map] at hi
      cases hfi : f.toList[i]? with
      | none => simp [hfi] at hi
      | some fd =>
        simp only [hfi, Option.map_some, Option.some.injEq, Prod.mk.injEq] at hi
        obtain ⟨e1, e2, e3⟩ := hi
        have hfi' : f[i]? = some fd := by simpa using hfi
        obtain ⟨k1, k2⟩ := hall fd (List.mem_of_getElem? hfi)
        obtain ⟨d, hd⟩ := Option.isSome_iff_exists.1 k1
        obtain ⟨inf, hinf⟩ := Option.isSome_iff_exists.1 k2
        have hsz : ∀ w', (sizeOf fd.type).run X.P w' = .ok sz' w' := fun w' => by
          simp only [szOf, hinf] at e2
          simp [sizeOf, typeInfo, hinf, e2]
        obtain ⟨v, y, h1, h2, h3⟩ := partA_run (X := X) hs hv hsz (fun w' => by rw [run_aggT hd, e3]) h
        rw [← e1] at h1
        exact ⟨v, y, fun w' _ => by simp [execOp, hop, Instr.field, run_underlying hu, hfi', hq, asAgg, h1 w'], h2, h3⟩
  · exact h.elim

theorem y_index {t : TypeId} {x i : Operand} (hop : o.op = .index t x i) (hS : SRel X N β s a) (h : vcE X (.index t (ev s x) (ev s i)) st K) : Yld X β w a o st K := by
  have hx := hS.eval x
  have hi := hS.eval i
  unfold vcE at h
  simp only at h
  cases hiv : ev s i with
  | val v =>
    cases v with
    | int k j =>
      rw [hiv] at hi
      have hi := inv_val hi
      simp only [hiv] at h
      split at h
      · rename_i z q ht hxv
        rw [hxv] at hx
        have hx := inv_val hx
        have hu := ti_str ht
        obtain ⟨h0, h⟩ := h
        cases hb : q.data[j.toNat]? with
        | none => simp [hb] at h
        | some b =>
          simp only [hb] at h
          have hg : q[j.toNat]? = some b := by
            obtain ⟨hl, e⟩ := Array.getElem?_eq_some_iff.1 hb
            have hl' : j.toNat < q.size := hl
            rw [getElem?_pos q j.toNat hl']
            exact congrArg some e
          exact ⟨_, _, fun w' _ => by simp [execOp, hop, Instr.index, hi, asIntOf, run_underlying hu, hx, h0, hg], .val _, h⟩
      · rename_i n esz sz ea z cs ht hxv
        rw [hxv] at hx
        obtain ⟨vs, hq, hs, hv⟩ := cells_of_agg hx
        obtain ⟨e, inf, hu, hinf, hsz, hag, hue⟩ := ti_arr ht
        obtain ⟨h0, h1, h⟩ := h
        obtain ⟨d, hd⟩ := Option.isSome_iff_exists.1 hue
        have hsize : ∀ w', (sizeOf e).run X.P w' = .ok esz w' := fun w' => by simp [sizeOf, typeInfo, hinf, hsz]
        obtain ⟨v, y, h2, h3, h4⟩ := partA_run (X := X) hs hv hsize (fun w' => by rw [run_aggT hd, hag]) h
        exact ⟨v, y, fun w' _ => by simp [execOp, hop, Instr.index, hi, asIntOf, run_underlying hu, hq, h0, h1, hsize, h2 w'], h3, h4⟩
      · exact h.elim
    | _ => simp only [hiv] at h
  | _ => simp only [hiv] at h

theorem fill_fold (off : Nat) : ∀ (l : List Value) (k : Nat) (arr : Array Value), off + k + l.length ≤ arr.size →
    ((l.zipIdx k).foldl (fun cs (c, j) => cs.setIfInBounds (off + j) c) arr).size = arr.size ∧
    ∀ j : Nat, ((l.zipIdx k).foldl (fun cs (c, j) => cs.setIfInBounds (off + j) c) arr)[j]? = if off + k ≤ j ∧ j < off + k + l.length then l[j - (off + k)]? else arr[j]?
  | [], k, arr, _ => ⟨rfl, fun j => by rw [if_neg (by rintro ⟨h1, h2⟩; simp at h2; omega)]; rfl⟩
  | y :: l, k, arr, h => by
    obtain ⟨h1, h2⟩ := fill_fold off l (k + 1) (arr.setIfInBounds (off + k) y) (by simp at h ⊢; omega)
    simp only [List.zipIdx_cons, List.foldl_cons]
    refine ⟨by rw [h1]; simp, fun j => ?_⟩
    rw [h2]
    simp only [List.length_cons] at h ⊢
    by_cases hj : j = off + k
    · subst hj
      rw [if_neg (by omega), if_pos (by omega)]
      simp [show off + k < arr.size by omega]
    · by_cases hj2 : off + (k + 1) ≤ j ∧ j < off + (k + 1) + l.length
      · rw [if_pos hj2, if_pos (by omega)]
        obtain ⟨q, hq⟩ : ∃ q, j - (off + k) = q + 1 := ⟨j - (off + k) - 1, by omega⟩
        rw [hq, show j - (off + (k + 1)) = q by omega]
        rfl
      · rw [if_neg hj2, if_neg (by omega)]
        simp [Ne.symm hj]

theorem fill_rel {w0 : World} {place : Nat → Option (Nat × Nat)} : ∀ (ps : List (Nat × Value)) (qs : List (Nat × AV)) (vs : Array Value) (cs rs : List AV), ps.length = qs.length →
    (∀ (j : Nat) p q, ps[j]? = some p → qs[j]? = some q → p.1 = q.1 ∧ VRel w0 β p.2 q.2) → vs.size = cs.length → (∀ (j : Nat) u x, vs[j]? = some u → cs[j]? = some x → VRel w0 β u x) → fillA place cs qs = some rs →
    ∃ us, Instr.fill place vs ps = some us ∧ us.size = rs.length ∧ rs.length = cs.length ∧ (∀ (j : Nat) u x, us[j]? = some u → rs[j]? = some x → VRel w0 β u x)
  | [], [], vs, cs, rs, _, _, hs, hv, h => by
    simp only [fillA, Option.some.injEq] at h
    subst h
    exact ⟨vs, rfl, hs, rfl, hv⟩
  | [], _ :: _, _, _, _, hl, _, _, _, _ => by simp at hl
  | _ :: _, [], _, _, _, hl, _, _, _, _ => by simp at hl
  | (i, v) :: ps, (i', x) :: qs, vs, cs, rs, hl, hp, hs, hv, h => by
    obtain ⟨e, hvx⟩ := hp 0 (i, v) (i', x) rfl rfl
    simp only at e hvx
    subst e
    simp only [fillA] at h
    cases hpl : place i with
    | none => simp [hpl] at h
    | some q =>
      obtain ⟨off, size⟩ := q
      simp only [hpl] at h
      split at h
      · rename_i hc
        obtain ⟨hk, hsz, hle⟩ := hc
        obtain ⟨c1, c2, c3⟩ := cells_rel hvx hk
        have hvs : v.cells.size = size := by omega
        obtain ⟨f1, f2⟩ := fill_fold off v.cells.toList 0 vs (by simp; omega)
        simp only [Nat.add_zero, Array.length_toList] at f1 f2
        have step := fill_rel ps qs (v.cells.toList.zipIdx.foldl (fun cs (c, j) => cs.setIfInBounds (off + j) c) vs) (cs.take off ++ cellsA x ++ cs.drop (off + size)) rs (by simpa using hl)
          (fun j p q h1 h2 => hp (j + 1) p q (by simpa using h1) (by simpa using h2)) (by rw [f1]; simp; omega) (fun j u y hu hy => ?_) h
        · obtain ⟨us, g1, g2, g3, g4⟩ := step
          refine ⟨us, ?_, g2, by rw [g3]; simp; omega, g4⟩
          have hc1 : (v.cells.size ≠ size || off + v.cells.size > vs.size) = false := by simp; omega
          simp only [Instr.fill, hpl, hc1, Bool.false_eq_true, if_false]
          rw [← g1, ← Array.foldl_toList, Array.toList_zipIdx]
        · rw [f2] at hu
          by_cases hj : j < off
          · rw [if_neg (by omega)] at hu
            rw [List.getElem?_append_left (by simp; omega), List.getElem?_append_left (by simp; omega), List.getElem?_take, if_pos hj] at hy
            exact hv j u y hu hy
          · by_cases hj2 : j < off + size
            · rw [if_pos (by omega)] at hu
              rw [List.getElem?_append_left (by simp; omega), List.getElem?_append_right (by simp; omega)] at hy
              refine c2 (j - off) u y (by simpa using hu) ?_
              simpa [show min off cs.length = off by omega] using hy
            · rw [if_neg (by omega)] at hu
              rw [List.getElem?_append_right (by simp; omega)] at hy
              simp only [List.length_append, List.length_take, List.getElem?_drop] at hy
              rw [show off + size + (j - (min off cs.length + (cellsA x).length)) = j by omega] at hy
              exact hv j u y hu hy
      · cases h

theorem parts_rel (hS : SRel X N β s a) (ps : Array (Nat × Operand)) : (ps.map fun p => (p.1, a.eval p.2)).toList.length = (ps.toList.map fun p => (p.1, ev s p.2)).length ∧
    ∀ (j : Nat) p q, (ps.map fun p => (p.1, a.eval p.2)).toList[j]? = some p → (ps.toList.map fun p => (p.1, ev s p.2))[j]? = some q → p.1 = q.1 ∧ VRel X.w0 β p.2 q.2 := by
  refine ⟨by simp, fun j p q hp hq => ?_⟩
  simp only [Array.toList_map, List.getElem?_map] at hp hq
  cases hz : ps.toList[j]? with
  | none => simp [hz] at hp
  | some z =>
    simp only [hz, Option.map_some, Option.some.injEq] at hp hq
    subst hp; subst hq
    exact ⟨rfl, hS.eval z.2⟩

theorem zero_rel {w0 : World} (zs : Array Value) : zs.size = (zs.toList.map AV.val).length ∧ ∀ (j : Nat) u x, zs[j]? = some u → (zs.toList.map AV.val)[j]? = some x → VRel w0 β u x := by
  refine ⟨by simp, fun j u x hu hx => ?_⟩
  simp only [List.getElem?_map, Array.getElem?_toList, hu, Option.map_some, Option.some.injEq] at hx
  subst hx
  exact .val u

theorem places_run (f : Array Field) (hall : ∀ x ∈ f.toList, (X.P.underlying x.type).isSome = true ∧ (X.P.info? x.type).isSome = true) (w' : World) :
    (f.mapM fun fd => (do pure (fd.offset, ← sizeOf fd.type) : Sem (Nat × Nat))).run X.P w' = .ok (f.map fun fd => (fd.offset, szOf X.P fd.type)) w' := by
  have key : ∀ l : List Field, (∀ x ∈ l, (X.P.info? x.type).isSome = true) → ∀ w', (l.mapM fun fd => (do pure (fd.offset, ← sizeOf fd.type) : Sem (Nat × Nat))).run X.P w' = .ok (l.map fun fd => (fd.offset, szOf X.P fd.type)) w' := by
    intro l
    induction l with
    | nil => intro _ w'; simp
    | cons y l ih =>
      intro h w'
      obtain ⟨inf, hinf⟩ := Option.isSome_iff_exists.1 (h y (by simp))
      have h2 := ih (fun x hx => h x (by simp [hx])) w'
      have h1 : ∀ w', (do pure (y.offset, ← sizeOf y.type) : Sem (Nat × Nat)).run X.P w' = .ok (y.offset, szOf X.P y.type) w' := fun w' => by
        simp [sizeOf, typeInfo, hinf, szOf]
      rw [List.mapM_cons]
      simp only [Sem.run_bind, h1, Result.andThen_ok, h2, Sem.run_pure, List.map_cons]
  rw [Array.mapM_eq_mapM_toList, Sem.run_map, key f.toList (fun x hx => (hall x hx).2) w']
  simp only [Result.andThen_ok]
  rw [← Array.toList_map, Array.toArray_toList]

theorem y_build {t : TypeId} {ps : Array (Nat × Operand)} (hop : o.op = .build t ps) (hS : SRel X N β s a) (h : vcE X (.build t (ps.toList.map fun p => (p.1, ev s p.2))) st K) : Yld X β w a o st K := by
  unfold vcE at h
  simp only at h
  split at h
  · rename_i fs sz z ht
    obtain ⟨f, hu, hf, hall⟩ := ti_struct ht
    obtain ⟨d, i, zv, hd, hi, hz, hzs, hsz, hzz, hag⟩ := ti_good (P := X.P) (t := t) (by rw [ht]; rfl)
    rw [ht] at hzz
    simp only [TI.zero] at hzz
    cases hfill : fillA (fun i => (fs[i]?).map fun f => (f.1, f.2.1)) (z.map AV.val) (ps.toList.map fun p => (p.1, ev s p.2)) with
    | none => simp [hfill] at h
    | some cs =>
      simp only [hfill] at h
      obtain ⟨us, g1, g2, g3, g4⟩ := fill_rel _ _ zv.cells _ _ (parts_rel hS ps).1 (parts_rel hS ps).2 (by rw [hzz]; exact (zero_rel (w0 := X.w0) (β := β) zv.cells).1) (by rw [hzz]; exact (zero_rel zv.cells).2) hfill
      refine ⟨.agg us, _, fun w' _ => ?_, .agg g2 g4, h⟩
      have hpl : (fun i : Nat => ((f.map fun fd => (fd.offset, szOf X.P fd.type))[i]?)) = fun i : Nat => (fs[i]?).map fun (f : Nat × Nat × Bool) => (f.1, f.2.1) := by
        funext i
        rw [← hf]
        simp only [List.getElem?_map, Array.getElem?_map, Array.getElem?_toList, Option.map_map]
        rfl
      have hrun := places_run (X := X) f hall w'
      simp only [execOp, hop, Instr.build, Sem.run_bind, Result.andThen_ok, run_underlying hu, zeroValue, typeInfo, run_program, hi, hz, Sem.run_pure, hrun, hpl, g1]
  · exact h.elim

theorem y_blt {b : Builtin} {xs : Array Operand} {ts : Array TypeId} (hop : o.op = .call ⟨.builtin b, xs, ts⟩) (hp : b = .len ∨ b = .max ∨ b = .min) (hS : SRel X N β s a)
    (h : vcE X (.blt b ts.toList (xs.toList.map (ev s))) st K) : Yld X β w a o st K := by
  unfold vcE at h
  simp only at h
  have len1 : ∀ {l : List AV} , xs.toList.map (ev s) = l → ∀ y, l = [y] → ∃ z, xs = #[z] ∧ ev s z = y := by
    intro l e y e2
    subst e2
    obtain ⟨z, hz, e3⟩ := List.map_eq_singleton_iff.1 e
    exact ⟨z, by rw [← Array.toArray_toList (xs := xs), hz], e3⟩
  have len2 : ∀ {l : List AV} , xs.toList.map (ev s) = l → ∀ y y', l = [y, y'] → ∃ z z', xs = #[z, z'] ∧ ev s z = y ∧ ev s z' = y' := by
    intro l e y y' e2
    subst e2
    obtain ⟨z, r, hz, e3, e4⟩ := List.map_eq_cons_iff.1 e
    obtain ⟨z', hz', e5⟩ := List.map_eq_singleton_iff.1 e4
    exact ⟨z, z', by rw [← Array.toArray_toList (xs := xs), hz, hz'], e3, e5⟩
  generalize hl : xs.toList.map (ev s) = l at h
  generalize ht : ts.toList = tl at h
  rcases hp with rfl | rfl | rfl
  · rcases tl with _ | ⟨t, _ | ⟨t', tl⟩⟩
    · exact h.elim
    · rcases l with _ | ⟨y, _ | ⟨y', l⟩⟩
      · exact h.elim
      · obtain ⟨z, rfl, rfl⟩ := len1 hl y rfl
        have hts : ts[0]? = some t := by rw [← Array.getElem?_toList, ht]; rfl
        have hz := hS.eval z
        simp only at h
        split at h
        · rename_i z' q h1 h2
          rw [h2] at hz
          have hz := inv_val hz
          exact ⟨_, _, fun w' _ => by simp [execOp, hop, resolve, invoke, builtin, Builtin.len_, hts, run_underlying (ti_str h1), hz, goInt], .val _, h⟩
        · rename_i h1 h2
          rw [h2] at hz
          obtain ⟨A, c, hz, _, hn⟩ := inv_im hz
          exact ⟨_, _, fun w' _ => by simp [execOp, hop, resolve, invoke, builtin, Builtin.len_, hts, run_underlying (ti_slice h1).1, hz, goInt], .val _, h hn⟩
        · rename_i h1 h2
          rw [h2] at hz
          obtain ⟨hn, ⟨b, m, of, c, hb, hz, _, _⟩ | ⟨hb, hz, _, e⟩⟩ := inv_own hz
          · exact ⟨_, _, fun w' _ => by simp [execOp, hop, resolve, invoke, builtin, Builtin.len_, hts, run_underlying (ti_slice h1).1, hz, goInt], .val _, h hn⟩
          · exact ⟨_, _, fun w' _ => by simp [execOp, hop, resolve, invoke, builtin, Builtin.len_, hts, run_underlying (ti_slice h1).1, hz, goInt, e], .val _, h hn⟩
        · rename_i h1 h2
          rw [h2] at hz
          have hz := inv_val hz
          exact ⟨_, _, fun w' _ => by simp [execOp, hop, resolve, invoke, builtin, Builtin.len_, hts, run_underlying (ti_slice h1).1, hz, goInt], .val _, h⟩
        · exact h.elim
      · exact h.elim
    · exact h.elim
  · split at h <;> first | contradiction | skip
    · rename_i k p k' q _ _
      obtain ⟨z, z', rfl, e1, e2⟩ := len2 hl _ _ rfl
      have h1 := inv_val (e1 ▸ hS.eval z)
      have h2 := inv_val (e2 ▸ hS.eval z')
      exact ⟨_, _, fun w' _ => by simp [execOp, hop, resolve, invoke, builtin, Builtin.max_, Builtin.max2, h1, h2], .val _, h⟩
  · split at h <;> first | contradiction | skip
    · rename_i k p k' q _ _
      obtain ⟨z, z', rfl, e1, e2⟩ := len2 hl _ _ rfl
      have h1 := inv_val (e1 ▸ hS.eval z)
      have h2 := inv_val (e2 ▸ hS.eval z')
      exact ⟨_, _, fun w' _ => by simp [execOp, hop, resolve, invoke, builtin, Builtin.min_, Builtin.min2, h1, h2], .val _, h⟩

/-- Whatever operation leaves the world alone. -/
theorem pure_sound (hI : Inv X β st w) (hS : SRel X N β s a) (hp : pureA (aop s o.op) = true) (h : vcE X (aop s o.op) st K) : Yld X β w a o st K := by
  cases hop : o.op <;> rw [hop] at hp h
  case move x => exact y_mv (.inl hop) hS h
  case assign x => exact y_mv (.inr hop) hS h
  case pick c x y => exact y_pick hop hS h
  case build t ps => exact y_build hop hS h
  case load t x => exact y_load hop hI hS h
  case nilCheck x => exact y_nilCk hop hS h
  case binOp b t x y t' => exact y_bin hop hS h
  case unOp u t x => exact y_un hop hS h
  case convert t t' x => exact y_conv hop hI hS h
  case makeFunc f xs ys => exact y_mkFn hop hS h
  case slice t x lo hi mx => exact y_slice hop hS h
  case fieldAddr t x i => exact y_fAddr hop hS h
  case field t x i => exact y_field hop hS h
  case indexAddr t x i => exact y_iAddr hop hS h
  case index t x i => exact y_index hop hS h
  case extract x i => exact y_extract hop hS h
  case call c =>
    obtain ⟨cal, xs, ts⟩ := c
    cases cal with
    | builtin b =>
      refine y_blt hop ?_ hS h
      cases b <;> first | exact .inl rfl | exact .inr (.inl rfl) | exact .inr (.inr rfl) | (exfalso; simp [aop, pureA] at hp)
    | _ => exfalso; simp [aop, pureA] at hp
  all_goals (exfalso; simp [aop, pureA] at hp)

end
end Go.Proofs.Pv
