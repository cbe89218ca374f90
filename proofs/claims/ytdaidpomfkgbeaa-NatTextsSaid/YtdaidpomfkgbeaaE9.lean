/- The engine's ninth part: regions, in the text's order and drawn. -/
import Derived.Test.YtdaidpomfkgbeaaE8
import Derived.Scope
set_option linter.unusedSimpArgs false
set_option linter.unusedVariables false
namespace Go.Proofs.Pv
open Go Go.RowKit

def putS (dst : Option Nat) (x : AV) (s : Sl) : Sl := match dst with
  | some d => (d, x) :: s
  | none => s
def gvd (full : List Oper) (s : Sl) (g : Nat) : AV := match full[g]? with
  | some o => match o.dst with
    | some d => Sl.get s d
    | none => undefA
  | none => undefA

/-- One operation, if it is wanted. -/
def vc1 (d : Bool) (X : Cx) (full : List Oper) (o : Oper) (s : Sl) (st : St) (K : Sl → St → Prop) : Prop :=
  match o.guard with
  | none => vcE3 d X (aop s o.op) st fun v st' => K (putS o.dst v s) st'
  | some (g, want) => match gvd full s g with
    | .val (.bool b) => if b = want then vcE3 d X (aop s o.op) st fun v st' => K (putS o.dst v s) st' else K (putS o.dst undefA s) st
    | .val _ => K (putS o.dst undefA s) st
    | _ => False

def vcO (d : Bool) (X : Cx) (full : List Oper) : List Oper → Sl → St → (Sl → St → Prop) → Prop
  | [], s, st, K => K s st
  | o :: l, s, st, K => vc1 d X full o s st fun s st => vcO d X full l s st K

/-- Who must be behind whom, step over step, as bits. -/
def soundM (ops : Array Oper) (M : Array Nat) : Bool :=
  (List.range ops.size).all fun j => (List.range ops.size).all fun i => !Nat.testBit (M.getD j 0) i || match ops[j]? with
    | some o => o.after.any fun e => Region.binds .any e && (e.on == i || Nat.testBit (M.getD e.on 0) i)
    | none => false
def ancs (ops : Array Oper) : Array Nat :=
  ops.foldl (fun M o => M.push (o.after.foldl (fun m e => if Region.binds .any e then m ||| (1 <<< e.on) ||| M.getD e.on 0 else m) 0)) #[]
/-- Operations whose value hangs on no world. -/
def calmO : Op → Bool
  | .move _ | .assign _ => true
  | _ => false
def takeB (ops : Array Oper) (M : Array Nat) (listed : Array Bool) (i : Nat) : Bool :=
  match ops[i]? with
  | none => false
  | some oi => pureO oi.op && (Region.ready .any ops listed).contains i && (List.range ops.size).all fun j => j == i || listed.getD j true || Nat.testBit (M.getD j 0) i || match ops[j]? with
    | some oj => (softO oj.op || calmO oi.op) && oi.apart ops oj
    | none => true
def okS (ops : Array Oper) (M : Array Nat) : List Nat → Array Bool → Bool
  | [], listed => (Region.ready .any ops listed).isEmpty
  | i :: l, listed => (takeB ops M listed i || Region.ready .any ops listed == [i]) && okS ops M l (listed.setIfInBounds i true)
def start (ops : Array Oper) : Array Bool := Array.replicate ops.size false

/-- Whatever comes up: all that may come up, or one that may be taken first. -/
def vcD (X : Cx) (ops : Array Oper) (M : Array Nat) : Nat → Array Bool → Sl → St → (Sl → St → Prop) → Prop
  | 0, listed, s, st, K => Region.ready .any ops listed = [] ∧ K s st
  | n + 1, listed, s, st, K =>
    (Region.ready .any ops listed = [] ∧ K s st) ∨
    (Region.ready .any ops listed ≠ [] ∧ ∀ i ∈ Region.ready .any ops listed, ∀ o, ops[i]? = some o → vc1 true X ops.toList o s st fun s' st' => vcD X ops M n (listed.setIfInBounds i true) s' st' K) ∨
    (∃ i o, ops[i]? = some o ∧ takeB ops M listed i = true ∧ vc1 true X ops.toList o s st fun s' st' => vcD X ops M n (listed.setIfInBounds i true) s' st' K)

/-- A drawn region: by a list of numbers that serves for every order, or by whatever comes up. -/
def vcR (X : Cx) (ops : Array Oper) (s : Sl) (st : St) (K : Sl → St → Prop) : Prop :=
  ∃ M, soundM ops M = true ∧ Region.noSelect ops = true ∧
    ((∃ l, okS ops M l (start ops) = true ∧ vcO true X ops.toList (l.filterMap fun i => ops[i]?) s st K) ∨ vcD X ops M ops.size (start ops) s st K)

section
variable {X : Cx} {N : Nat} {β : Bk} {st : St} {w : World} {s : Sl} {a : Act} {o : Oper} {d : Bool} {ops : Array Oper} {K : Sl → St → Prop}

theorem SRel.putS (hS : SRel X N β s a) {dst : Option Nat} (hd : ∀ t, dst = some t → t < N) {v : Value} {x : AV} (hv : VRel X.w0 β v x) : SRel X N β (putS dst x s) (a.put dst v) := by
  cases dst with
  | none => exact hS
  | some t => exact hS.put (hd t rfl) hv

theorem gvd_val (hS : SRel X N β s a) {g : Nat} {v : Value} (h : gvd ops.toList s g = .val v) : yielded ops a.tmps g = (match v with | .bool b => some b | _ => none) := by
  unfold gvd at h
  unfold yielded
  rw [Array.getElem?_toList] at h
  cases ho : ops[g]? with
  | none => rw [ho] at h; cases h; rfl
  | some o =>
    rw [ho] at h
    simp only [Option.bind_some] at h ⊢
    cases hd : o.dst with
    | none => rw [hd] at h; cases h; rfl
    | some t =>
      rw [hd] at h
      simp only [Option.bind_some] at h ⊢
      have hs := hS.slot t
      rw [h] at hs
      have he := inv_val hs
      rw [Array.getD_eq_getD_getElem?] at he
      cases ht : a.tmps[t]? with
      | none => rw [ht] at he; simp only [Option.getD_none] at he; subst he; rfl
      | some u => rw [ht] at he; simp only [Option.getD_some] at he; subst he; cases u <;> rfl

/-- What an operation with its guard comes to. -/
theorem vc1_cases (hS : SRel X N β s a) (h : vc1 d X ops.toList o s st K) :
    (Region.wanted o (yielded ops a.tmps) = true ∧ vcE3 d X (aop s o.op) st fun v st' => K (Pv.putS o.dst v s) st') ∨ (Region.wanted o (yielded ops a.tmps) = false ∧ K (Pv.putS o.dst undefA s) st) := by
  unfold vc1 at h
  unfold Region.wanted
  cases hg : o.guard with
  | none => rw [hg] at h; exact .inl ⟨rfl, h⟩
  | some p =>
    obtain ⟨g, want⟩ := p
    rw [hg] at h
    simp only at h ⊢
    cases hv : gvd ops.toList s g with
    | val v =>
      rw [hv] at h
      rw [gvd_val hS hv]
      cases v with
      | bool b =>
        simp only at h ⊢
        split at h
        · rename_i hb; subst hb; exact .inl ⟨by simp, h⟩
        · rename_i hb; exact .inr ⟨by simp [hb], h⟩
      | _ => exact .inr ⟨by simp, h⟩
    | _ => rw [hv] at h; exact h.elim

variable {i : Nat} {next : Act → World → Prop} {Q : Exit → Act → World → Prop}

theorem v1_sound (hi : ops[i]? = some o) (hd : ∀ t, o.dst = some t → t < N) (hI : Inv X β st w) (hS : SRel X N β s a) (h : vc1 d X ops.toList o s st K)
    (hn : ∀ β' s' st' a' w', (d = true → softO o.op = true → Below w.heap.size w w') → Inv X β' st' w' → SRel X N β' s' a' → K s' st' → next a' w') : wpOp X.P ops Q i next a w := by
  unfold wpOp
  simp only [hi]
  rcases vc1_cases hS h with ⟨hw, h⟩ | ⟨hw, h⟩
  · rw [if_pos hw]
    refine .inl ?_
    by_cases hs : d = true ∧ softO o.op = true
    · obtain ⟨rfl, hs⟩ := hs
      exact soft_sound hI hS hs h fun v x ex st' w' hb h1 h2 h3 => hn _ _ _ _ _ (fun _ _ => hb) h1 ((hS.ext ex).putS hd h2) h3
    · exact op3_sound hI hS h fun v x ex st' w' h1 h2 h3 => hn _ _ _ _ _ (fun h1 h2 => absurd ⟨h1, h2⟩ hs) h1 ((hS.ext ex).putS hd h2) h3
  · rw [if_neg (by rw [hw]; simp)]
    exact hn _ _ _ _ _ (fun _ _ => Below.refl _ _) hI (hS.putS hd (.val _)) h

theorem v1_yields (hp : pureO o.op = true) (hI : Inv X β st w) (hS : SRel X N β s a) (h : vc1 d X ops.toList o s st K) :
    ∃ v x, YieldsIf X.P ops (fun w' => calmO o.op = true ∨ Below w.heap.size w w') o v a ∧ VRel X.w0 β v x ∧ K (Pv.putS o.dst x s) st := by
  rcases vc1_cases hS h with ⟨hw, h⟩ | ⟨hw, h⟩
  · by_cases hc : calmO o.op = true
    · obtain ⟨y, hop⟩ : ∃ y, o.op = .move y ∨ o.op = .assign y := by
        cases ho : o.op <;> rw [ho] at hc <;> first | exact ⟨_, .inl rfl⟩ | exact ⟨_, .inr rfl⟩ | cases hc
      refine ⟨a.eval y, ev s y, .inl ⟨hw, fun w' _ => ?_⟩, hS.eval y, ?_⟩
      · rcases hop with hop | hop <;> simp [execOp, hop]
      · rcases hop with hop | hop <;> rw [hop] at h <;> exact h
    · obtain ⟨v, x, h1, h2, h3⟩ := pure2_sound (K := fun v st' => K (Pv.putS o.dst v s) st') hI hS (pureO_aop hp) (pure3_of hp h)
      exact ⟨v, x, .inl ⟨hw, fun w' hw' => h1 w' (hw'.resolve_left hc)⟩, h2, h3⟩
  · exact ⟨undef, undefA, .inr ⟨hw, rfl⟩, .val _, h⟩

/-- Numbers' operations. -/
theorem vcO_sound (hd : ∀ o ∈ ops.toList, ∀ t, o.dst = some t → t < N) (hQ : ∀ β s st a w, Inv X β st w → SRel X N β s a → K s st → Q .normal a w) :
    ∀ (l : List Nat) (β : Bk) (s : Sl) (st : St) (a : Act) (w : World), Inv X β st w → SRel X N β s a → vcO d X ops.toList (l.filterMap fun i => ops[i]?) s st K → wpOps X.P ops Q l a w := by
  intro l
  induction l with
  | nil => intro β s st a w hI hS h; exact hQ _ _ _ _ _ hI hS h
  | cons i l ih =>
    intro β s st a w hI hS h
    rw [wpOps_cons]
    cases ho : ops[i]? with
    | none =>
      simp only [List.filterMap_cons, ho] at h
      unfold wpOp
      simp only [ho]
      exact ih _ _ _ _ _ hI hS h
    | some o =>
      simp only [List.filterMap_cons, ho] at h
      refine v1_sound ho (hd o (by simpa using Array.mem_of_getElem? ho)) hI hS h fun β' s' st' a' w' _ h1 h2 h3 => ih _ _ _ _ _ h1 h2 h3

theorem range_all : ∀ l : List Oper, (List.range l.length).filterMap (fun i => l[i]?) = l
  | [] => rfl
  | o :: l => by
    rw [List.length_cons, List.range_succ_eq_map, List.filterMap_cons, List.filterMap_map]
    simp only [List.getElem?_cons_zero, Function.comp_def, List.getElem?_cons_succ]
    rw [range_all l]

end

/-! ### Drawn regions -/
section
variable {P : Program} {ops : Array Oper} {Q : Exit → Act → World → Prop} {M : Array Nat}

def softAt (ops : Array Oper) (i : Nat) : Bool := match ops[i]? with
  | some o => softO o.op
  | none => true

/-- Whatever order is picked from here on; behind a soft operation the world has grown alone. -/
def wpAnyF (P : Program) (ops : Array Oper) (Q : Exit → Act → World → Prop) : Nat → Array Bool → Act → World → Prop
  | 0, listed, a, w => Region.ready .any ops listed = [] ∧ Q .normal a w
  | fuel + 1, listed, a, w =>
    (Region.ready .any ops listed = [] → Q .normal a w) ∧
    ∀ i ∈ Region.ready .any ops listed, wpOp P ops Q i (fun a' w' => (softAt ops i = true → Below w.heap.size w w') ∧ wpAnyF P ops Q fuel (listed.setIfInBounds i true) a' w') a w

theorem wpAny_of_F : ∀ (fuel : Nat) (listed : Array Bool) (a : Act) (w : World), wpAnyF P ops Q fuel listed a w → wpAny P .any ops Q fuel listed a w
  | 0, _, _, _, h => h
  | fuel + 1, _, _, _, h => ⟨h.1, fun i hi => wpOp_mono (fun a' w' h' => wpAny_of_F fuel _ a' w' h'.2) (h.2 i hi)⟩

/-- With each listed one, all that it waits for are listed. -/
def Closed (ops : Array Oper) (M : Array Nat) (listed : Array Bool) : Prop :=
  ∀ j i, i < ops.size → listed.getD j false = true → Nat.testBit (M.getD j 0) i = true → listed.getD i false = true

theorem soundM_spec (hM : soundM ops M = true) {j i : Nat} (hi : i < ops.size) {oj : Oper} (hj : ops[j]? = some oj) (h : Nat.testBit (M.getD j 0) i = true) :
    ∃ e ∈ oj.after, Region.binds .any e = true ∧ (e.on = i ∨ Nat.testBit (M.getD e.on 0) i = true) := by
  simp only [soundM, List.all_eq_true, List.mem_range] at hM
  have := hM j (Array.getElem?_eq_some_iff.1 hj).1 i hi
  rw [h, hj] at this
  simp only [Bool.not_true, Bool.false_or] at this
  obtain ⟨e, he, hb⟩ := Array.any_eq_true'.1 this
  simp only [Bool.and_eq_true, Bool.or_eq_true, beq_iff_eq] at hb
  exact ⟨e, he, hb.1, hb.2⟩

/-- Of one that is ready, all that it waits for are listed. -/
theorem ready_anc (hM : soundM ops M = true) {listed : Array Bool} (hC : Closed ops M listed) {j i : Nat} (hi : i < ops.size) (hj : j ∈ Region.ready .any ops listed) (h : Nat.testBit (M.getD j 0) i = true) :
    listed.getD i false = true := by
  obtain ⟨_, o, ho, hall⟩ := mem_ready.1 hj
  obtain ⟨e, he, hb, h | h⟩ := soundM_spec hM hi ho h
  · rw [← h]; exact hall e he hb
  · exact hC e.on i hi (hall e he hb) h

theorem Closed.set (hM : soundM ops M = true) {listed : Array Bool} (hC : Closed ops M listed) {j : Nat} (hj : j ∈ Region.ready .any ops listed) : Closed ops M (listed.setIfInBounds j true) := by
  intro k i hi hk hb
  by_cases hkj : k = j
  · subst hkj; exact getD_set_true (ready_anc hM hC hi hj hb)
  · rw [getD_set_ne false (Ne.symm hkj)] at hk
    exact getD_set_true (hC k i hi hk hb)

theorem start_closed : Closed ops M (start ops) := by
  intro j i _ h _
  exfalso
  simp only [start, Array.getD_eq_getD_getElem?] at h
  rcases Nat.lt_or_ge j ops.size with hj | hj
  · simp [hj] at h
  · simp [Nat.not_lt.2 hj] at h

theorem not_listed {listed : Array Bool} {i : Nat} (h : i ∈ Region.ready .any ops listed) (h' : listed.getD i false = true) : False := by
  have h0 := (mem_ready.1 h).1
  simp only [Array.getD_eq_getD_getElem?] at h0 h'
  cases hl : listed[i]? with
  | none => simp [hl] at h'
  | some b => simp [hl] at h0 h'; simp [h0] at h'

/-- One that may come up now may be taken first, if it yields its value in every world that has grown alone, and each other that has not come up waits for it, or is soft and apart. -/
theorem wpAnyF_first (hM : soundM ops M = true) {i : Nat} {oi : Oper} {v : Value} (hi : ops[i]? = some oi) (hsel : ∀ (j : Nat) (o : Oper) cs b, ops[j]? = some o → o.op ≠ .select cs b)
    (hQ : ∀ c a w, Q (.panic c) (a.put oi.dst v) w → Q (.panic c) a w) :
    ∀ (fuel : Nat) (listed : Array Bool) (a : Act) (w : World), Closed ops M listed →
      (∀ j oj, ops[j]? = some oj → j ≠ i → listed.getD j true = false → Nat.testBit (M.getD j 0) i = true ∨ ((softO oj.op = true ∨ calmO oi.op = true) ∧ oi.apart ops oj = true)) →
      i ∈ Region.ready .any ops listed → YieldsIf P ops (fun w' => calmO oi.op = true ∨ Below w.heap.size w w') oi v a →
      wpAnyF P ops Q fuel (listed.setIfInBounds i true) (a.put oi.dst v) w → wpAnyF P ops Q (fuel + 1) listed a w := by
  intro fuel
  have hil : i < ops.size := (Array.getElem?_eq_some_iff.1 hi).1
  induction fuel with
  | zero =>
    intro listed a w _ _ hr hy H
    refine ⟨fun h => (by rw [h] at hr; cases hr), fun j hj => ?_⟩
    by_cases hji : j = i
    · subst hji; exact hy.wpOp hi (.inr (Below.refl _ _)) ⟨fun _ => Below.refl _ _, H⟩
    · have := ready_mono hj hji
      rw [H.1] at this
      cases this
  | succ fuel ih =>
    intro listed a w hC hfree hr hy H
    refine ⟨fun h => (by rw [h] at hr; cases hr), fun j hj => ?_⟩
    by_cases hji : j = i
    · subst hji; exact hy.wpOp hi (.inr (Below.refl _ _)) ⟨fun _ => Below.refl _ _, H⟩
    · have h1 := H.2 j (ready_mono hj hji)
      obtain ⟨hjun, oj, hoj, hall⟩ := mem_ready.1 hj
      obtain ⟨hsoft, hap⟩ : (softO oj.op = true ∨ calmO oi.op = true) ∧ oi.apart ops oj = true := by
        rcases hfree j oj hoj hji hjun with h | h
        · exact (not_listed hr (ready_anc hM hC hil hj h)).elim
        · exact h
      have h2 := wpOp_putIf hoj hap (fun cs b => hsel i oi cs b hi) (fun cs b => hsel j oj cs b hoj) hQ hy h1
      refine wpOp_mono (fun a' w' h3 => ⟨h3.2.1, ih (listed.setIfInBounds j true) a' w' (hC.set hM hj) (fun k ok hk hki hun => hfree k ok hk hki ?_) (ready_mono hr (Ne.symm hji)) ?_ ?_⟩) h2
      · by_cases hjk : j = k
        · subst hjk; exact hjun
        · rw [getD_set_ne true hjk] at hun; exact hun
      · refine h3.1.imp (fun ⟨q1, q2⟩ => ⟨q1, fun w'' hb' => q2 w'' ?_⟩) id
        rcases hsoft with hs | hs
        · have hb := h3.2.1 (by simp only [softAt, hoj]; exact hs)
          exact hb'.imp id fun hb' => hb.trans (hb'.mono hb.size)
        · exact .inl hs
      · rw [Array.setIfInBounds_comm _ _ hji]
        exact h3.2.2

theorem takeB_spec {listed : Array Bool} {i : Nat} {oi : Oper} (hi : ops[i]? = some oi) (h : takeB ops M listed i = true) :
    pureO oi.op = true ∧ i ∈ Region.ready .any ops listed ∧ ∀ j oj, ops[j]? = some oj → j ≠ i → listed.getD j true = false → Nat.testBit (M.getD j 0) i = true ∨ ((softO oj.op = true ∨ calmO oi.op = true) ∧ oi.apart ops oj = true) := by
  simp only [takeB, hi, Bool.and_eq_true, List.all_eq_true, List.mem_range] at h
  obtain ⟨⟨h1, h2⟩, h3⟩ := h
  refine ⟨h1, by simpa using h2, fun j oj hj hji hun => ?_⟩
  have := h3 j (Array.getElem?_eq_some_iff.1 hj).1
  simp only [hun, hj, Bool.or_false, Bool.or_eq_true, beq_iff_eq, hji, false_or, Bool.and_eq_true] at this
  exact this
end

section
variable {X : Cx} {N : Nat} {ops : Array Oper} {M : Array Nat} {K : Sl → St → Prop} {Q : Exit → Act → World → Prop}

/-- One taken first. -/
theorem take_sound (hM : soundM ops M = true) (hns : Region.noSelect ops = true) (hQp : ∀ c a w, ¬ Q (.panic c) a w) {i : Nat} {o : Oper} (hi : ops[i]? = some o) (hd : ∀ t, o.dst = some t → t < N)
    {listed : Array Bool} (ht : takeB ops M listed i = true) (hC : Closed ops M listed) {β : Bk} {s : Sl} {st : St} {a : Act} {w : World} (hI : Inv X β st w) (hS : SRel X N β s a) {n : Nat}
    {K' : Sl → St → Prop} (h : vc1 true X ops.toList o s st K') (hn : ∀ v x, SRel X N β (Pv.putS o.dst x s) (a.put o.dst v) → K' (Pv.putS o.dst x s) st → wpAnyF X.P ops Q n (listed.setIfInBounds i true) (a.put o.dst v) w) :
    wpAnyF X.P ops Q (n + 1) listed a w := by
  obtain ⟨hp, hr, hfree⟩ := takeB_spec hi ht
  obtain ⟨v, x, hy, hv, hk⟩ := v1_yields hp hI hS h
  exact wpAnyF_first hM hi (Region.noSelect_spec hns) (fun c a w h => absurd h (hQp _ _ _)) n listed a w hC hfree hr hy (hn v x (hS.putS hd hv) hk)

theorem okS_sound (hM : soundM ops M = true) (hns : Region.noSelect ops = true) (hd : ∀ o ∈ ops.toList, ∀ t, o.dst = some t → t < N) (hQ : ∀ β s st a w, Inv X β st w → SRel X N β s a → K s st → Q .normal a w)
    (hQp : ∀ c a w, ¬ Q (.panic c) a w) : ∀ (l : List Nat) (n : Nat) (listed : Array Bool) (β : Bk) (s : Sl) (st : St) (a : Act) (w : World), okS ops M l listed = true → Closed ops M listed → Inv X β st w → SRel X N β s a →
      vcO true X ops.toList (l.filterMap fun i => ops[i]?) s st K → l.length ≤ n → wpAnyF X.P ops Q n listed a w := by
  intro l
  induction l with
  | nil =>
    intro n listed β s st a w hl hC hI hS h hn
    have hr : Region.ready .any ops listed = [] := by simpa [okS] using hl
    cases n with
    | zero => exact ⟨hr, hQ _ _ _ _ _ hI hS h⟩
    | succ n => exact ⟨fun _ => hQ _ _ _ _ _ hI hS h, by rw [hr]; simp⟩
  | cons i l ih =>
    intro n listed β s st a w hl hC hI hS h hn
    simp only [okS, Bool.and_eq_true, Bool.or_eq_true, beq_iff_eq] at hl
    obtain ⟨hl1, hl2⟩ := hl
    have hr : i ∈ Region.ready .any ops listed := by
      rcases hl1 with h1 | h1
      · cases ho : ops[i]? with
        | none => simp [takeB, ho] at h1
        | some o => exact (takeB_spec ho h1).2.1
      · rw [h1]; simp
    obtain ⟨_, o, ho, _⟩ := mem_ready.1 hr
    simp only [List.filterMap_cons, ho] at h
    cases n with
    | zero => simp at hn
    | succ n =>
      have hn' : l.length ≤ n := by simpa using hn
      have hd' := hd o (by simpa using Array.mem_of_getElem? ho)
      rcases hl1 with h1 | h1
      · exact take_sound hM hns hQp ho hd' h1 hC hI hS h fun v x h2 h3 => ih n _ _ _ _ _ _ hl2 (hC.set hM hr) hI h2 h3 hn'
      · refine ⟨fun h2 => (by rw [h2] at h1; cases h1), fun j hj => ?_⟩
        rw [h1] at hj
        obtain rfl : j = i := by simpa using hj
        exact v1_sound ho hd' hI hS h fun β' s' st' a' w' hb h1 h2 h3 => ⟨fun hs => hb rfl (by simpa [softAt, ho] using hs), ih n _ _ _ _ _ _ hl2 (hC.set hM hr) h1 h2 h3 hn'⟩

theorem vcD_sound (hM : soundM ops M = true) (hns : Region.noSelect ops = true) (hd : ∀ o ∈ ops.toList, ∀ t, o.dst = some t → t < N) (hQ : ∀ β s st a w, Inv X β st w → SRel X N β s a → K s st → Q .normal a w)
    (hQp : ∀ c a w, ¬ Q (.panic c) a w) : ∀ (n : Nat) (listed : Array Bool) (β : Bk) (s : Sl) (st : St) (a : Act) (w : World), Closed ops M listed → Inv X β st w → SRel X N β s a →
      vcD X ops M n listed s st K → wpAnyF X.P ops Q n listed a w := by
  intro n
  induction n with
  | zero => intro listed β s st a w hC hI hS h; exact ⟨h.1, hQ _ _ _ _ _ hI hS h.2⟩
  | succ n ih =>
    intro listed β s st a w hC hI hS h
    rcases h with ⟨hr, h⟩ | ⟨hr, h⟩ | ⟨i, o, ho, ht, h⟩
    · exact ⟨fun _ => hQ _ _ _ _ _ hI hS h, by rw [hr]; simp⟩
    · refine ⟨fun h2 => absurd h2 hr, fun i hi => ?_⟩
      obtain ⟨_, o, ho, _⟩ := mem_ready.1 hi
      exact v1_sound ho (hd o (by simpa using Array.mem_of_getElem? ho)) hI hS (h i hi o ho) fun β' s' st' a' w' hb h1 h2 h3 => ⟨fun hs => hb rfl (by simpa [softAt, ho] using hs), ih _ _ _ _ _ _ (hC.set hM hi) h1 h2 h3⟩
    · exact take_sound hM hns hQp ho (hd o (by simpa using Array.mem_of_getElem? ho)) ht hC hI hS h fun v x h2 h3 => ih _ _ _ _ _ _ (hC.set hM (takeB_spec ho ht).2.1) hI h2 h3

theorem okS_length : ∀ (l : List Nat) (listed : Array Bool), okS ops M l listed = true → l.length ≤ (listed.toList.count false) := by
  intro l
  induction l with
  | nil => intro _ _; simp
  | cons i l ih =>
    intro listed h
    simp only [okS, Bool.and_eq_true, Bool.or_eq_true, beq_iff_eq] at h
    obtain ⟨h1, h2⟩ := h
    have hr : i ∈ Region.ready .any ops listed := by
      rcases h1 with h1 | h1
      · cases ho : ops[i]? with
        | none => simp [takeB, ho] at h1
        | some o => exact (takeB_spec ho h1).2.1
      · rw [h1]; simp
    have h0 := (mem_ready.1 hr).1
    have h3 := ih _ h2
    have hlt : i < listed.size := by
      rcases Nat.lt_or_ge i listed.size with h | h
      · exact h
      · simp [Array.getD_eq_getD_getElem?, Array.getElem?_eq_none h] at h0
    have hf : listed.toList[i]'(by simpa using hlt) = false := by simpa [Array.getD_eq_getD_getElem?, hlt] using h0
    rw [Array.toList_setIfInBounds, List.count_set (by simpa using hlt)] at h3
    have hpos : 0 < listed.toList.count false := List.count_pos_iff.2 (hf ▸ List.getElem_mem _)
    simp only [hf, BEq.rfl, if_true] at h3
    simp only [List.length_cons]
    rw [if_neg (by decide)] at h3
    omega

theorem vcR_sound (hm : X.P.follows .mixedOrders = true) (hd : ∀ o ∈ ops.toList, ∀ t, o.dst = some t → t < N) {id : Nat} {β : Bk} {s : Sl} {st : St} {a : Act} {w : World} (hI : Inv X β st w) (hS : SRel X N β s a)
    (h : vcR X ops s st K) : (Code.region id ops true).wp X.P (fun e a w => e = .normal ∧ ∃ β s st, Inv X β st w ∧ SRel X N β s a ∧ K s st) a w := by
  obtain ⟨M, hM, hns, h⟩ := h
  refine wp_region_any hm (wpAny_of_F _ _ _ _ ?_)
  have hI' : Inv X β st { w with drawn := w.drawn + 1 } := hI.grow_below ⟨rfl, rfl, rfl, Nat.le_refl _, fun _ _ => rfl⟩
  rcases h with ⟨l, hl, h⟩ | h
  · refine okS_sound hM hns hd (fun β s st a w h1 h2 h3 => ⟨rfl, β, s, st, h1, h2, h3⟩) (fun c a w h => by cases h.1) l _ _ _ _ _ _ _ hl start_closed hI' hS h ?_
    have := okS_length l _ hl
    refine Nat.le_trans this ?_
    refine Nat.le_trans (List.count_le_length ..) ?_
    simp [start]
  · exact vcD_sound hM hns hd (fun β s st a w h1 h2 h3 => ⟨rfl, β, s, st, h1, h2, h3⟩) (fun c a w h => by cases h.1) _ _ _ _ _ _ _ start_closed hI' hS h
end
end Go.Proofs.Pv
