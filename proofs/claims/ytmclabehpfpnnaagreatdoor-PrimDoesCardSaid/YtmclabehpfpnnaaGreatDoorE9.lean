/- The engine's ninth part: regions, in the text's order and drawn. -/
import Derived.Test.YtmclabehpfpnnaaGreatDoorE8
import Derived.Scope
set_option linter.unusedSimpArgs false
set_option linter.unusedVariables false
namespace Go.Proofs.Pv
open Go Go.RowKit

def putS (dst : Option Nat) (x : AV) (s : Sl) : Sl := match dst with
  | some d => (d, x) :: s
  | none => s
def gvd (full : List Oper) (s : Sl) (g : Nat) : AV := match full[g]? with
  | some o => match o.dst with
    | some d => Sl.get s d
    | none => undefA
  | none => undefA

/-- One operation, if it is wanted. -/
def vc1 (d : Bool) (X : Cx) (full : List Oper) (o : Oper) (s : Sl) (st : St) (K : Sl → St → Prop) : Prop :=
  match o.guard with
  | none => vcE3 d X (aop s o.op) st fun v st' => K (putS o.dst v s) st'
  | some (g, want) => match gvd full s g with
    | .val (.bool b) => if b = want then vcE3 d X (aop s o.op) st fun v st' => K (putS o.dst v s) st' else K (putS o.dst undefA s) st
    | .val _ => K (putS o.dst undefA s) st
    | _ => False

def vcO (d : Bool) (X : Cx) (full : List Oper) : List Oper → Sl → St → (Sl → St → Prop) → Prop
  | [], s, st, K => K s st
  | o :: l, s, st, K => vc1 d X full o s st fun s st => vcO d X full l s st K

/-- Who must be behind whom, step over step, as bits. -/
def soundM (ops : Array Oper) (M : Array Nat) : Bool :=
  (List.range ops.size).all fun j => (List.range ops.size).all fun i => !Nat.testBit (M.getD j 0) i || match ops[j]? with
    | some o => o.after.any fun e => Region.binds .any e && (e.on == i || Nat.testBit (M.getD e.on 0) i)
    | none => false
def ancs (ops : Array Oper) : Array Nat :=
  ops.foldl (fun M o => M.push (o.after.foldl (fun m e => if Region.binds .any e then m ||| (1 <<< e.on) ||| M.getD e.on 0 else m) 0)) #[]
/-- Operations whose value hangs on no world. -/
def calmO : Op → Bool
  | .move _ | .assign _ | .extract _ _ | .build _ _ => true
  | _ => false
def takeB (ops : Array Oper) (M : Array Nat) (listed : Array Bool) (i : Nat) : Bool :=
  match ops[i]? with
  | none => false
  | some oi => pureO oi.op && (Region.ready .any ops listed).contains i && (List.range ops.size).all fun j => j == i || listed.getD j true || Nat.testBit (M.getD j 0) i || match ops[j]? with
    | some oj => (softO oj.op || calmO oi.op) && oi.apart ops oj
    | none => true
def okS (ops : Array Oper) (M : Array Nat) : List Nat → Array Bool → Bool
  | [], listed => (Region.ready .any ops listed).isEmpty
  | i :: l, listed => (takeB ops M listed i || Region.ready .any ops listed == [i]) && okS ops M l (listed.setIfInBounds i true)
def start (ops : Array Oper) : Array Bool := Array.replicate ops.size false

/-- Whatever comes up: all that may come up, or one that may be taken first. -/
def vcD (X : Cx) (ops : Array Oper) (M : Array Nat) : Nat → Array Bool → Sl → St → (Sl → St → Prop) → Prop
  | 0, listed, s, st, K => Region.ready .any ops listed = [] ∧ K s st
  | n + 1, listed, s, st, K =>
    (Region.ready .any ops listed = [] ∧ K s st) ∨
    (Region.ready .any ops listed ≠ [] ∧ ∀ i ∈ Region.ready .any ops listed, ∀ o, ops[i]? = some o → vc1 true X ops.toList o s st fun s' st' => vcD X ops M n (listed.setIfInBounds i true) s' st' K) ∨
    (∃ i o, ops[i]? = some o ∧ takeB ops M listed i = true ∧ vc1 true X ops.toList o s st fun s' st' => vcD X ops M n (listed.setIfInBounds i true) s' st' K)

/-- A drawn region: by a list of numbers that serves for every order, or by whatever comes up. -/
def softAt (ops : Array Oper) (i : Nat) : Bool := match ops[i]? with
  | some o => softO o.op
  | none => true

/-- An operation that makes a variable. -/
def alo (ops : Array Oper) (a : Nat) : Option (Nat × TypeId) := match ops[a]? with
  | some o => match o.dst, o.op, o.guard with
    | some d, .alloc t, none => some (d, t)
    | _, _, _ => none
  | none => none
def setAll (A : List Nat) (listed : Array Bool) : Array Bool := A.foldl (fun l a => l.setIfInBounds a true) listed
/-- Those of A may come up at any time; the others in the list's order. -/
def okP (ops : Array Oper) (M : Array Nat) (A l2 : List Nat) : List Nat → Array Bool → Bool
  | [], listed => A.all (fun a => (Region.ready .any ops listed).contains a) &&
      ((List.range ops.size).all fun j => listed.getD j true || A.contains j || A.all fun a => Nat.testBit (M.getD j 0) a) && okS ops M l2 (setAll A listed)
  | i :: l, listed => !A.contains i && (match ops[i]? with
      | some oi => A.all fun a => match alo ops a with
        | some (d, _) => oi.dst != some d
        | none => false
      | none => false) &&
    (takeB ops M listed i || (softAt ops i && (Region.ready .any ops listed).contains i && (Region.ready .any ops (setAll A listed)).all (· == i))) && okP ops M A l2 l (listed.setIfInBounds i true)
def okA (P : Program) (ops : Array Oper) (A : List Nat) : Bool := decide A.Nodup && decide (A.map fun a => (alo ops a).map (·.1)).Nodup && A.all fun a => match alo ops a with
  | some (_, t) => (ti P t).good
  | none => false
/-- The places that A's will write: nothing is known of them. -/
def maskS (ops : Array Oper) : List Nat → Sl → Sl
  | [], s => s
  | a :: A, s => match alo ops a with
    | some (d, _) => (d, .junk) :: maskS ops A s
    | none => maskS ops A s

/-- A drawn region's orders: one that may be taken first, or the only one; or either of two. -/
inductive Tr where
  | fin
  | take (i : Nat) (t : Tr)
  | two (i : Nat) (t : Tr) (j : Nat) (u : Tr)
def Tr.deep : Tr → Nat
  | .fin => 0
  | .take _ t => t.deep + 1
  | .two _ t _ u => max t.deep u.deep + 1
def okT (ops : Array Oper) (M : Array Nat) : Tr → Array Bool → Bool
  | .fin, listed => (Region.ready .any ops listed).isEmpty
  | .take i t, listed => (takeB ops M listed i || Region.ready .any ops listed == [i]) && okT ops M t (listed.setIfInBounds i true)
  | .two i t j u, listed => Region.ready .any ops listed == [i, j] && okT ops M t (listed.setIfInBounds i true) && okT ops M u (listed.setIfInBounds j true)
def runD (X : Cx) (ops : Array Oper) (K : Sl → St → Prop) : Tr → Sl → St → Prop
  | .fin, s, st => K s st
  | .take i t, s, st => match ops[i]? with
    | some o => vc1 true X ops.toList o s st (runD X ops K t)
    | none => False
  | .two i t j u, s, st => (match ops[i]? with
    | some o => vc1 true X ops.toList o s st (runD X ops K t)
    | none => False) ∧ match ops[j]? with
    | some o => vc1 true X ops.toList o s st (runD X ops K u)
    | none => False

/-- All orders, or one that may be taken first. -/
inductive Tn where
  | fin
  | take (i : Nat) (t : Tn)
  | alt (i : Nat) (t : Tn) (u : Tn)
def Tn.keys : Tn → List Nat
  | .alt i _ u => i :: u.keys
  | _ => []
def Tn.deep : Tn → Nat
  | .fin => 0
  | .take _ t => t.deep + 1
  | .alt _ t u => max (t.deep + 1) u.deep
/-- With b: further ones of the same place. -/
def okN (ops : Array Oper) (M : Array Nat) : Bool → Tn → Array Bool → Bool
  | b, .fin, listed => b || (Region.ready .any ops listed).isEmpty
  | b, .take i t, listed => !b && takeB ops M listed i && okN ops M false t (listed.setIfInBounds i true)
  | b, .alt i t u, listed => (b || Region.ready .any ops listed == i :: u.keys) && okN ops M false t (listed.setIfInBounds i true) && okN ops M true u listed
def runN (X : Cx) (ops : Array Oper) (K : Sl → St → Prop) : Bool → Tn → Sl → St → Prop
  | b, .fin, s, st => if b then True else K s st
  | b, .take i t, s, st => if b then False else match ops[i]? with
    | some o => vc1 true X ops.toList o s st (runN X ops K false t)
    | none => False
  | _, .alt i t u, s, st => (match ops[i]? with
    | some o => vc1 true X ops.toList o s st (runN X ops K false t)
    | none => False) ∧ runN X ops K true u s st

def vcR (X : Cx) (ops : Array Oper) (s : Sl) (st : St) (K : Sl → St → Prop) : Prop :=
  ∃ M, soundM ops M = true ∧ Region.noSelect ops = true ∧
    ((∃ l, okS ops M l (start ops) = true ∧ vcO true X ops.toList (l.filterMap fun i => ops[i]?) s st K) ∨ vcD X ops M ops.size (start ops) s st K ∨
      (∃ A l1 l2, l1.length + A.length + l2.length ≤ ops.size ∧ okA X.P ops A = true ∧ okP ops M A l2 l1 (start ops) = true ∧ vcO true X ops.toList ((l1 ++ (A ++ l2)).filterMap fun i => ops[i]?) (maskS ops A s) st K) ∨
      (∃ t : Tr, t.deep ≤ ops.size ∧ okT ops M t (start ops) = true ∧ runD X ops K t s st) ∨
      ∃ t : Tn, t.deep ≤ ops.size ∧ okN ops M false t (start ops) = true ∧ runN X ops K false t s st)

section
variable {X : Cx} {N : Nat} {β : Bk} {st : St} {w : World} {s : Sl} {a : Act} {o : Oper} {d : Bool} {ops : Array Oper} {K : Sl → St → Prop}

theorem SRel.putS (hS : SRel X N β s a) {dst : Option Nat} (hd : ∀ t, dst = some t → t < N) {v : Value} {x : AV} (hv : VRel X.w0 β v x) : SRel X N β (putS dst x s) (a.put dst v) := by
  cases dst with
  | none => exact hS
  | some t => exact hS.put (hd t rfl) hv

theorem gvd_val (hS : SRel X N β s a) {g : Nat} {v : Value} (h : gvd ops.toList s g = .val v) : yielded ops a.tmps g = (match v with | .bool b => some b | _ => none) := by
  unfold gvd at h
  unfold yielded
  rw [Array.getElem?_toList] at h
  cases ho : ops[g]? with
  | none => rw [ho] at h; cases h; rfl
  | some o =>
    rw [ho] at h
    simp only [Option.bind_some] at h ⊢
    cases hd : o.dst with
    | none => rw [hd] at h; cases h; rfl
    | some t =>
      rw [hd] at h
      simp only [Option.bind_some] at h ⊢
      have hs := hS.slot t
      rw [h] at hs
      have he := inv_val hs
      rw [Array.getD_eq_getD_getElem?] at he
      cases ht : a.tmps[t]? with
      | none => rw [ht] at he; simp only [Option.getD_none] at he; subst he; rfl
      | some u => rw [ht] at he; simp only [Option.getD_some] at he; subst he; cases u <;> rfl

/-- What an operation with its guard comes to. -/
theorem vc1_cases (hS : SRel X N β s a) (h : vc1 d X ops.toList o s st K) :
    (Region.wanted o (yielded ops a.tmps) = true ∧ vcE3 d X (aop s o.op) st fun v st' => K (Pv.putS o.dst v s) st') ∨ (Region.wanted o (yielded ops a.tmps) = false ∧ K (Pv.putS o.dst undefA s) st) := by
  unfold vc1 at h
  unfold Region.wanted
  cases hg : o.guard with
  | none => rw [hg] at h; exact .inl ⟨rfl, h⟩
  | some p =>
    obtain ⟨g, want⟩ := p
    rw [hg] at h
    simp only at h ⊢
    cases hv : gvd ops.toList s g with
    | val v =>
      rw [hv] at h
      rw [gvd_val hS hv]
      cases v with
      | bool b =>
        simp only at h ⊢
        split at h
        · rename_i hb; subst hb; exact .inl ⟨by simp, h⟩
        · rename_i hb; exact .inr ⟨by simp [hb], h⟩
      | _ => exact .inr ⟨by simp, h⟩
    | _ => rw [hv] at h; exact h.elim

variable {i : Nat} {next : Act → World → Prop} {Q : Exit → Act → World → Prop}

theorem v1_sound (hi : ops[i]? = some o) (hd : ∀ t, o.dst = some t → t < N) (hI : Inv X β st w) (hS : SRel X N β s a) (h : vc1 d X ops.toList o s st K)
    (hn : ∀ β' s' st' a' w', (d = true → softO o.op = true → Below w.heap.size w w') → Inv X β' st' w' → SRel X N β' s' a' → K s' st' → next a' w') : wpOp X.P ops Q i next a w := by
  unfold wpOp
  simp only [hi]
  rcases vc1_cases hS h with ⟨hw, h⟩ | ⟨hw, h⟩
  · rw [if_pos hw]
    refine .inl ?_
    by_cases hs : d = true ∧ softO o.op = true
    · obtain ⟨rfl, hs⟩ := hs
      exact soft_sound hI hS hs h fun v x ex st' w' hb h1 h2 h3 => hn _ _ _ _ _ (fun _ _ => hb) h1 ((hS.ext ex).putS hd h2) h3
    · exact op3_sound hI hS h fun v x ex st' w' h1 h2 h3 => hn _ _ _ _ _ (fun h1 h2 => absurd ⟨h1, h2⟩ hs) h1 ((hS.ext ex).putS hd h2) h3
  · rw [if_neg (by rw [hw]; simp)]
    exact hn _ _ _ _ _ (fun _ _ => Below.refl _ _) hI (hS.putS hd (.val _)) h

theorem v1_yields (hp : pureO o.op = true) (hI : Inv X β st w) (hS : SRel X N β s a) (h : vc1 d X ops.toList o s st K) :
    ∃ v x, YieldsIf X.P ops (fun w' => calmO o.op = true ∨ Below w.heap.size w w') o v a ∧ VRel X.w0 β v x ∧ K (Pv.putS o.dst x s) st := by
  rcases vc1_cases hS h with ⟨hw, h⟩ | ⟨hw, h⟩
  · by_cases hc : calmO o.op = true
    · by_cases hx : ∃ y i, o.op = .extract y i
      · obtain ⟨y, i, hop⟩ := hx
        rw [hop] at h
        obtain ⟨v, x, h1, h2, h3⟩ := y_extract' (K := fun v st' => K (Pv.putS o.dst v s) st') hop hS h
        exact ⟨v, x, .inl ⟨hw, fun w' _ => h1 w'⟩, h2, h3⟩
      by_cases hb : ∃ t ps, o.op = .build t ps
      · obtain ⟨t, ps, hop⟩ := hb
        rw [hop] at h
        obtain ⟨v, x, h1, h2, h3⟩ := y_build' (K := fun v st' => K (Pv.putS o.dst v s) st') hop hS h
        exact ⟨v, x, .inl ⟨hw, fun w' _ => h1 w'⟩, h2, h3⟩
      obtain ⟨y, hop⟩ : ∃ y, o.op = .move y ∨ o.op = .assign y := by
        cases ho : o.op <;> rw [ho] at hc hx hb <;> first | exact ⟨_, .inl rfl⟩ | exact ⟨_, .inr rfl⟩ | (exfalso; exact hx ⟨_, _, rfl⟩) | (exfalso; exact hb ⟨_, _, rfl⟩) | cases hc
      refine ⟨a.eval y, ev s y, .inl ⟨hw, fun w' _ => ?_⟩, hS.eval y, ?_⟩
      · rcases hop with hop | hop <;> simp [execOp, hop]
      · rcases hop with hop | hop <;> rw [hop] at h <;> exact h
    · obtain ⟨v, x, h1, h2, h3⟩ := pure2_sound (K := fun v st' => K (Pv.putS o.dst v s) st') hI hS (pureO_aop hp) (pure3_of hp h)
      exact ⟨v, x, .inl ⟨hw, fun w' hw' => h1 w' (hw'.resolve_left hc)⟩, h2, h3⟩
  · exact ⟨undef, undefA, .inr ⟨hw, rfl⟩, .val _, h⟩

/-- Numbers' operations. -/
theorem vcO_sound (hd : ∀ o ∈ ops.toList, ∀ t, o.dst = some t → t < N) (hQ : ∀ β s st a w, Inv X β st w → SRel X N β s a → K s st → Q .normal a w) :
    ∀ (l : List Nat) (β : Bk) (s : Sl) (st : St) (a : Act) (w : World), Inv X β st w → SRel X N β s a → vcO d X ops.toList (l.filterMap fun i => ops[i]?) s st K → wpOps X.P ops Q l a w := by
  intro l
  induction l with
  | nil => intro β s st a w hI hS h; exact hQ _ _ _ _ _ hI hS h
  | cons i l ih =>
    intro β s st a w hI hS h
    rw [wpOps_cons]
    cases ho : ops[i]? with
    | none =>
      simp only [List.filterMap_cons, ho] at h
      unfold wpOp
      simp only [ho]
      exact ih _ _ _ _ _ hI hS h
    | some o =>
      simp only [List.filterMap_cons, ho] at h
      refine v1_sound ho (hd o (by simpa using Array.mem_of_getElem? ho)) hI hS h fun β' s' st' a' w' _ h1 h2 h3 => ih _ _ _ _ _ h1 h2 h3

theorem range_all : ∀ l : List Oper, (List.range l.length).filterMap (fun i => l[i]?) = l
  | [] => rfl
  | o :: l => by
    rw [List.length_cons, List.range_succ_eq_map, List.filterMap_cons, List.filterMap_map]
    simp only [List.getElem?_cons_zero, Function.comp_def, List.getElem?_cons_succ]
    rw [range_all l]

end

/-! ### Drawn regions -/
section
variable {P : Program} {ops : Array Oper} {Q : Exit → Act → World → Prop} {M : Array Nat}

/-- Whatever order is picked from here on; behind a soft operation the world has grown alone. -/
def wpAnyF (P : Program) (ops : Array Oper) (Q : Exit → Act → World → Prop) : Nat → Array Bool → Act → World → Prop
  | 0, listed, a, w => Region.ready .any ops listed = [] ∧ Q .normal a w
  | fuel + 1, listed, a, w =>
    (Region.ready .any ops listed = [] → Q .normal a w) ∧
    ∀ i ∈ Region.ready .any ops listed, wpOp P ops Q i (fun a' w' => (softAt ops i = true → Below w.heap.size w w') ∧ wpAnyF P ops Q fuel (listed.setIfInBounds i true) a' w') a w

theorem wpAny_of_F : ∀ (fuel : Nat) (listed : Array Bool) (a : Act) (w : World), wpAnyF P ops Q fuel listed a w → wpAny P .any ops Q fuel listed a w
  | 0, _, _, _, h => h
  | fuel + 1, _, _, _, h => ⟨h.1, fun i hi => wpOp_mono (fun a' w' h' => wpAny_of_F fuel _ a' w' h'.2) (h.2 i hi)⟩

/-- With each listed one, all that it waits for are listed. -/
def Closed (ops : Array Oper) (M : Array Nat) (listed : Array Bool) : Prop :=
  ∀ j i, i < ops.size → listed.getD j false = true → Nat.testBit (M.getD j 0) i = true → listed.getD i false = true

theorem soundM_spec (hM : soundM ops M = true) {j i : Nat} (hi : i < ops.size) {oj : Oper} (hj : ops[j]? = some oj) (h : Nat.testBit (M.getD j 0) i = true) :
    ∃ e ∈ oj.after, Region.binds .any e = true ∧ (e.on = i ∨ Nat.testBit (M.getD e.on 0) i = true) := by
  simp only [soundM, List.all_eq_true, List.mem_range] at hM
  have := hM j (Array.getElem?_eq_some_iff.1 hj).1 i hi
  rw [h, hj] at this
  simp only [Bool.not_true, Bool.false_or] at this
  obtain ⟨e, he, hb⟩ := Array.any_eq_true'.1 this
  simp only [Bool.and_eq_true, Bool.or_eq_true, beq_iff_eq] at hb
  exact ⟨e, he, hb.1, hb.2⟩

/-- Of one that is ready, all that it waits for are listed. -/
theorem ready_anc (hM : soundM ops M = true) {listed : Array Bool} (hC : Closed ops M listed) {j i : Nat} (hi : i < ops.size) (hj : j ∈ Region.ready .any ops listed) (h : Nat.testBit (M.getD j 0) i = true) :
    listed.getD i false = true := by
  obtain ⟨_, o, ho, hall⟩ := mem_ready.1 hj
  obtain ⟨e, he, hb, h | h⟩ := soundM_spec hM hi ho h
  · rw [← h]; exact hall e he hb
  · exact hC e.on i hi (hall e he hb) h

theorem Closed.set (hM : soundM ops M = true) {listed : Array Bool} (hC : Closed ops M listed) {j : Nat} (hj : j ∈ Region.ready .any ops listed) : Closed ops M (listed.setIfInBounds j true) := by
  intro k i hi hk hb
  by_cases hkj : k = j
  · subst hkj; exact getD_set_true (ready_anc hM hC hi hj hb)
  · rw [getD_set_ne false (Ne.symm hkj)] at hk
    exact getD_set_true (hC k i hi hk hb)

theorem start_closed : Closed ops M (start ops) := by
  intro j i _ h _
  exfalso
  simp only [start, Array.getD_eq_getD_getElem?] at h
  rcases Nat.lt_or_ge j ops.size with hj | hj
  · simp [hj] at h
  · simp [Nat.not_lt.2 hj] at h

theorem not_listed {listed : Array Bool} {i : Nat} (h : i ∈ Region.ready .any ops listed) (h' : listed.getD i false = true) : False := by
  have h0 := (mem_ready.1 h).1
  simp only [Array.getD_eq_getD_getElem?] at h0 h'
  cases hl : listed[i]? with
  | none => simp [hl] at h'
  | some b => simp [hl] at h0 h'; simp [h0] at h'

/-- One that may come up now may be taken first, if it yields its value in every world that has grown alone, and each other that has not come up waits for it, or is soft and apart. -/
theorem wpAnyF_first (hM : soundM ops M = true) {i : Nat} {oi : Oper} {v : Value} (hi : ops[i]? = some oi) (hsel : ∀ (j : Nat) (o : Oper) cs b, ops[j]? = some o → o.op ≠ .select cs b)
    (hQ : ∀ c a w, Q (.panic c) (a.put oi.dst v) w → Q (.panic c) a w) :
    ∀ (fuel : Nat) (listed : Array Bool) (a : Act) (w : World), Closed ops M listed →
      (∀ j oj, ops[j]? = some oj → j ≠ i → listed.getD j true = false → Nat.testBit (M.getD j 0) i = true ∨ ((softO oj.op = true ∨ calmO oi.op = true) ∧ oi.apart ops oj = true)) →
      i ∈ Region.ready .any ops listed → YieldsIf P ops (fun w' => calmO oi.op = true ∨ Below w.heap.size w w') oi v a →
      wpAnyF P ops Q fuel (listed.setIfInBounds i true) (a.put oi.dst v) w → wpAnyF P ops Q (fuel + 1) listed a w := by
  intro fuel
  have hil : i < ops.size := (Array.getElem?_eq_some_iff.1 hi).1
  induction fuel with
  | zero =>
    intro listed a w _ _ hr hy H
    refine ⟨fun h => (by rw [h] at hr; cases hr), fun j hj => ?_⟩
    by_cases hji : j = i
    · subst hji; exact hy.wpOp hi (.inr (Below.refl _ _)) ⟨fun _ => Below.refl _ _, H⟩
    · have := ready_mono hj hji
      rw [H.1] at this
      cases this
  | succ fuel ih =>
    intro listed a w hC hfree hr hy H
    refine ⟨fun h => (by rw [h] at hr; cases hr), fun j hj => ?_⟩
    by_cases hji : j = i
    · subst hji; exact hy.wpOp hi (.inr (Below.refl _ _)) ⟨fun _ => Below.refl _ _, H⟩
    · have h1 := H.2 j (ready_mono hj hji)
      obtain ⟨hjun, oj, hoj, hall⟩ := mem_ready.1 hj
      obtain ⟨hsoft, hap⟩ : (softO oj.op = true ∨ calmO oi.op = true) ∧ oi.apart ops oj = true := by
        rcases hfree j oj hoj hji hjun with h | h
        · exact (not_listed hr (ready_anc hM hC hil hj h)).elim
        · exact h
      have h2 := wpOp_putIf hoj hap (fun cs b => hsel i oi cs b hi) (fun cs b => hsel j oj cs b hoj) hQ hy h1
      refine wpOp_mono (fun a' w' h3 => ⟨h3.2.1, ih (listed.setIfInBounds j true) a' w' (hC.set hM hj) (fun k ok hk hki hun => hfree k ok hk hki ?_) (ready_mono hr (Ne.symm hji)) ?_ ?_⟩) h2
      · by_cases hjk : j = k
        · subst hjk; exact hjun
        · rw [getD_set_ne true hjk] at hun; exact hun
      · refine h3.1.imp (fun ⟨q1, q2⟩ => ⟨q1, fun w'' hb' => q2 w'' ?_⟩) id
        rcases hsoft with hs | hs
        · have hb := h3.2.1 (by simp only [softAt, hoj]; exact hs)
          exact hb'.imp id fun hb' => hb.trans (hb'.mono hb.size)
        · exact .inl hs
      · rw [Array.setIfInBounds_comm _ _ hji]
        exact h3.2.2

theorem takeB_spec {listed : Array Bool} {i : Nat} {oi : Oper} (hi : ops[i]? = some oi) (h : takeB ops M listed i = true) :
    pureO oi.op = true ∧ i ∈ Region.ready .any ops listed ∧ ∀ j oj, ops[j]? = some oj → j ≠ i → listed.getD j true = false → Nat.testBit (M.getD j 0) i = true ∨ ((softO oj.op = true ∨ calmO oi.op = true) ∧ oi.apart ops oj = true) := by
  simp only [takeB, hi, Bool.and_eq_true, List.all_eq_true, List.mem_range] at h
  obtain ⟨⟨h1, h2⟩, h3⟩ := h
  refine ⟨h1, by simpa using h2, fun j oj hj hji hun => ?_⟩
  have := h3 j (Array.getElem?_eq_some_iff.1 hj).1
  simp only [hun, hj, Bool.or_false, Bool.or_eq_true, beq_iff_eq, hji, false_or, Bool.and_eq_true] at this
  exact this
end

section
variable {X : Cx} {N : Nat} {ops : Array Oper} {M : Array Nat} {K : Sl → St → Prop} {Q : Exit → Act → World → Prop}

/-- One taken first. -/
theorem take_sound (hM : soundM ops M = true) (hns : Region.noSelect ops = true) (hQp : ∀ c a w, ¬ Q (.panic c) a w) {i : Nat} {o : Oper} (hi : ops[i]? = some o) (hd : ∀ t, o.dst = some t → t < N)
    {listed : Array Bool} (ht : takeB ops M listed i = true) (hC : Closed ops M listed) {β : Bk} {s : Sl} {st : St} {a : Act} {w : World} (hI : Inv X β st w) (hS : SRel X N β s a) {n : Nat}
    {K' : Sl → St → Prop} (h : vc1 true X ops.toList o s st K') (hn : ∀ v x, SRel X N β (Pv.putS o.dst x s) (a.put o.dst v) → K' (Pv.putS o.dst x s) st → wpAnyF X.P ops Q n (listed.setIfInBounds i true) (a.put o.dst v) w) :
    wpAnyF X.P ops Q (n + 1) listed a w := by
  obtain ⟨hp, hr, hfree⟩ := takeB_spec hi ht
  obtain ⟨v, x, hy, hv, hk⟩ := v1_yields hp hI hS h
  exact wpAnyF_first hM hi (Region.noSelect_spec hns) (fun c a w h => absurd h (hQp _ _ _)) n listed a w hC hfree hr hy (hn v x (hS.putS hd hv) hk)

theorem okS_sound (hM : soundM ops M = true) (hns : Region.noSelect ops = true) (hd : ∀ o ∈ ops.toList, ∀ t, o.dst = some t → t < N) (hQ : ∀ β s st a w, Inv X β st w → SRel X N β s a → K s st → Q .normal a w)
    (hQp : ∀ c a w, ¬ Q (.panic c) a w) : ∀ (l : List Nat) (n : Nat) (listed : Array Bool) (β : Bk) (s : Sl) (st : St) (a : Act) (w : World), okS ops M l listed = true → Closed ops M listed → Inv X β st w → SRel X N β s a →
      vcO true X ops.toList (l.filterMap fun i => ops[i]?) s st K → l.length ≤ n → wpAnyF X.P ops Q n listed a w := by
  intro l
  induction l with
  | nil =>
    intro n listed β s st a w hl hC hI hS h hn
    have hr : Region.ready .any ops listed = [] := by simpa [okS] using hl
    cases n with
    | zero => exact ⟨hr, hQ _ _ _ _ _ hI hS h⟩
    | succ n => exact ⟨fun _ => hQ _ _ _ _ _ hI hS h, by rw [hr]; simp⟩
  | cons i l ih =>
    intro n listed β s st a w hl hC hI hS h hn
    simp only [okS, Bool.and_eq_true, Bool.or_eq_true, beq_iff_eq] at hl
    obtain ⟨hl1, hl2⟩ := hl
    have hr : i ∈ Region.ready .any ops listed := by
      rcases hl1 with h1 | h1
      · cases ho : ops[i]? with
        | none => simp [takeB, ho] at h1
        | some o => exact (takeB_spec ho h1).2.1
      · rw [h1]; simp
    obtain ⟨_, o, ho, _⟩ := mem_ready.1 hr
    simp only [List.filterMap_cons, ho] at h
    cases n with
    | zero => simp at hn
    | succ n =>
      have hn' : l.length ≤ n := by simpa using hn
      have hd' := hd o (by simpa using Array.mem_of_getElem? ho)
      rcases hl1 with h1 | h1
      · exact take_sound hM hns hQp ho hd' h1 hC hI hS h fun v x h2 h3 => ih n _ _ _ _ _ _ hl2 (hC.set hM hr) hI h2 h3 hn'
      · refine ⟨fun h2 => (by rw [h2] at h1; cases h1), fun j hj => ?_⟩
        rw [h1] at hj
        obtain rfl : j = i := by simpa using hj
        exact v1_sound ho hd' hI hS h fun β' s' st' a' w' hb h1 h2 h3 => ⟨fun hs => hb rfl (by simpa [softAt, ho] using hs), ih n _ _ _ _ _ _ hl2 (hC.set hM hr) h1 h2 h3 hn'⟩

theorem vcD_sound (hM : soundM ops M = true) (hns : Region.noSelect ops = true) (hd : ∀ o ∈ ops.toList, ∀ t, o.dst = some t → t < N) (hQ : ∀ β s st a w, Inv X β st w → SRel X N β s a → K s st → Q .normal a w)
    (hQp : ∀ c a w, ¬ Q (.panic c) a w) : ∀ (n : Nat) (listed : Array Bool) (β : Bk) (s : Sl) (st : St) (a : Act) (w : World), Closed ops M listed → Inv X β st w → SRel X N β s a →
      vcD X ops M n listed s st K → wpAnyF X.P ops Q n listed a w := by
  intro n
  induction n with
  | zero => intro listed β s st a w hC hI hS h; exact ⟨h.1, hQ _ _ _ _ _ hI hS h.2⟩
  | succ n ih =>
    intro listed β s st a w hC hI hS h
    rcases h with ⟨hr, h⟩ | ⟨hr, h⟩ | ⟨i, o, ho, ht, h⟩
    · exact ⟨fun _ => hQ _ _ _ _ _ hI hS h, by rw [hr]; simp⟩
    · refine ⟨fun h2 => absurd h2 hr, fun i hi => ?_⟩
      obtain ⟨_, o, ho, _⟩ := mem_ready.1 hi
      exact v1_sound ho (hd o (by simpa using Array.mem_of_getElem? ho)) hI hS (h i hi o ho) fun β' s' st' a' w' hb h1 h2 h3 => ⟨fun hs => hb rfl (by simpa [softAt, ho] using hs), ih _ _ _ _ _ _ (hC.set hM hi) h1 h2 h3⟩
    · exact take_sound hM hns hQp ho (hd o (by simpa using Array.mem_of_getElem? ho)) ht hC hI hS h fun v x h2 h3 => ih _ _ _ _ _ _ (hC.set hM (takeB_spec ho ht).2.1) hI h2 h3

/-! Variables that are made at any time. -/
theorem alo_spec {a d : Nat} {t : TypeId} (h : alo ops a = some (d, t)) : ∃ o, ops[a]? = some o ∧ o.dst = some d ∧ o.op = .alloc t ∧ o.guard = none := by
  unfold alo at h
  cases ho : ops[a]? with
  | none => rw [ho] at h; cases h
  | some o =>
    rw [ho] at h
    simp only at h
    split at h
    · rename_i h1 h2 h3
      cases h
      exact ⟨o, rfl, h1, h2, h3⟩
    · cases h

/-- An object whose block is there already. -/
theorem Inv.adopt {β : Bk} {st : St} {w : World} (hI : Inv X β st w) {b : Nat} {c : Array Value} {e : TypeId} (hc : w.heap[b]? = some (.cells c e (0, 0))) (hb1 : X.w1.heap.size ≤ b) (hf : ∀ (r : Nat) b' m, β[r]? = some (some (b', m)) → b' ≠ b)
    (cs : List AV) (hl : cs.length ≤ c.size) (hv : ∀ (j : Nat) x, cs[j]? = some x → ∃ u, c[j]? = some u ∧ VRel X.w0 β u x) : Inv X (β ++ [some (b, c.size)]) (st ++ [some cs]) w := by
  have hbw : b < w.heap.size := (Array.getElem?_eq_some_iff.1 hc).1
  have hlast : ∀ {r : Nat} {y : Option (Nat × Nat)}, (β ++ [some (b, c.size)])[r]? = some y → (r < β.length ∧ β[r]? = some y) ∨ (r = β.length ∧ y = some (b, c.size)) := by
    intro r y h
    rcases Nat.lt_or_ge r β.length with h' | h'
    · rw [List.getElem?_append_left h'] at h; exact .inl ⟨h', h⟩
    · rw [List.getElem?_append_right h'] at h
      rcases Nat.eq_zero_or_pos (r - β.length) with h0 | h0
      · rw [h0] at h; exact .inr ⟨by omega, by simpa using h.symm⟩
      · rw [List.getElem?_eq_none (by simp; omega)] at h; cases h
  have hlast' : ∀ {r : Nat} {ds : List AV}, (st ++ [some cs])[r]? = some (some ds) → (r < st.length ∧ st[r]? = some (some ds)) ∨ (r = st.length ∧ ds = cs) := by
    intro r y h
    rcases Nat.lt_or_ge r st.length with h' | h'
    · rw [List.getElem?_append_left h'] at h; exact .inl ⟨h', h⟩
    · rw [List.getElem?_append_right h'] at h
      rcases Nat.eq_zero_or_pos (r - st.length) with h0 | h0
      · rw [h0] at h; exact .inr ⟨by omega, by simpa using h.symm⟩
      · rw [List.getElem?_eq_none (by simp; omega)] at h; cases h
  refine ⟨hI.b0, hI.b1, by simp [hI.len], ?_, ?_, ?_, ?_, ?_, ?_⟩
  · obtain ⟨y, hy⟩ := hI.stp; exact ⟨y ++ [some cs], by rw [hy]; simp⟩
  · obtain ⟨y, hy⟩ := hI.bep; exact ⟨y ++ [some (b, c.size)], by rw [← List.append_assoc, ← hy]⟩
  · intro r b' m hr hb'
    rcases hlast hb' with ⟨_, h⟩ | ⟨_, h⟩
    · exact hI.nw r b' m hr h
    · cases h; exact hb1
  · intro r b' m hb'
    rcases hlast hb' with ⟨_, h⟩ | ⟨_, h⟩
    · exact hI.ow r b' m h
    · cases h; exact ⟨Nat.le_trans hI.b0.size hb1, hbw⟩
  · intro r ds hr
    rcases hlast' hr with ⟨h1, h⟩ | ⟨h1, rfl⟩
    · obtain ⟨bk, h2, h3⟩ := hI.obj r ds h
      refine ⟨bk, by rw [List.getElem?_append_left (by rw [hI.len]; exact h1)]; exact h2, ?_⟩
      cases bk with
      | none => exact h3
      | some p =>
        obtain ⟨b', m⟩ := p
        obtain ⟨c', e', h4, h5, h6, h7⟩ := h3
        exact ⟨c', e', h4, h5, h6, fun j x hx => by obtain ⟨u, h8, h9⟩ := h7 j x hx; exact ⟨u, h8, h9.ext _⟩⟩
    · refine ⟨some (b, c.size), by rw [h1, ← hI.len]; simp, c, e, hc, rfl, hl, fun j x hx => ?_⟩
      obtain ⟨u, h8, h9⟩ := hv j x hx
      exact ⟨u, h8, h9.ext _⟩
  · intro r r' ds ds' b' m m' h1 h2 h3 h4
    rcases hlast h3 with ⟨g1, g2⟩ | ⟨g1, g2⟩ <;> rcases hlast h4 with ⟨g3, g4⟩ | ⟨g3, g4⟩
    · rcases hlast' h1 with ⟨k1, k2⟩ | ⟨k1, k2⟩
      · rcases hlast' h2 with ⟨k3, k4⟩ | ⟨k3, k4⟩
        · exact hI.inj r r' ds ds' b' m m' k2 k4 g2 g4
        · have := hI.len; omega
      · have := hI.len; omega
    · cases g4; exact absurd rfl (hf r _ _ g2)
    · cases g2; exact absurd rfl (hf r' _ _ g4)
    · omega

/-- Variables that were made early: where they lie. -/
structure Pend (X : Cx) (ops : Array Oper) (β : Bk) (w : World) (a : Act) (L : List (Nat × Nat)) : Prop where
  at' : ∀ p ∈ L, ∃ d t i z, alo ops p.1 = some (d, t) ∧ (ti X.P t).zero = z.cells.toList ∧ X.P.info? t = some i ∧ i.zero = some z ∧ a.tmps.getD d undef = .pointer (some ⟨p.2, 0, none⟩) ∧ w.heap[p.2]? = some (.cells z.cells t (0, 0)) ∧ X.w1.heap.size ≤ p.2 ∧
    ∀ (r : Nat) b m, β[r]? = some (some (b, m)) → b ≠ p.2
  nd : (L.map (·.2)).Nodup

theorem Pend.step {β ex : Bk} {w w' : World} {a : Act} {L : List (Nat × Nat)} (h : Pend X ops β w a L) (hb : Below w.heap.size w w') (hex : ∀ (r : Nat) b m, β.length ≤ r → (β ++ ex)[r]? = some (some (b, m)) → w.heap.size ≤ b) {dst : Option Nat} {v : Value}
    (hd : ∀ p ∈ L, ∀ d t, alo ops p.1 = some (d, t) → dst ≠ some d) : Pend X ops (β ++ ex) w' (a.put dst v) L := by
  refine ⟨fun p hp => ?_, h.nd⟩
  obtain ⟨d, t, i, z, h1, h2, h3, h4, h5, h6, h7, h8⟩ := h.at' p hp
  have hlt : p.2 < w.heap.size := (Array.getElem?_eq_some_iff.1 h6).1
  refine ⟨d, t, i, z, h1, h2, h3, h4, ?_, by rw [hb.block p.2 hlt]; exact h6, h7, fun r b m hr => ?_⟩
  · cases dst with
    | none => exact h5
    | some k =>
      have hk : k ≠ d := fun e => hd p hp d t h1 (by rw [e])
      rw [← h5]
      simp [Act.put, Array.getD_eq_getD_getElem?, hk]
  · rcases Nat.lt_or_ge r β.length with h' | h'
    · rw [List.getElem?_append_left h'] at hr; exact h8 r b m hr
    · have := hex r b m h' hr; omega

theorem SRel.put_junk {N : Nat} {β : Bk} {s : Sl} {a : Act} (h : SRel X N β s a) {d : Nat} (hj : Sl.get s d = .junk) (v : Value) : SRel X N β s (a.put (some d) v) := by
  refine ⟨by simp [Act.put, h.size], h.defers, fun k => ?_⟩
  by_cases hk : k = d
  · subst hk; rw [hj]; exact .junk _
  · have : (a.put (some d) v).tmps.getD k undef = a.tmps.getD k undef := by simp [Act.put, Array.getD_eq_getD_getElem?, Ne.symm hk]
    rw [this]; exact h.slot k

/-- Listed: those of the list, and some of A. -/
structure Lis (listed listed' : Array Bool) (ex : List Nat) : Prop where
  size : listed'.size = listed.size
  get : ∀ j, j < listed.size → (listed'.getD j false = true ↔ listed.getD j false = true ∨ j ∈ ex)

theorem getD_tf {l : Array Bool} {j : Nat} : l.getD j true = false ↔ j < l.size ∧ l.getD j false = false := by
  simp only [Array.getD_eq_getD_getElem?]
  rcases Nat.lt_or_ge j l.size with h | h
  · simp [h]
  · simp [Nat.not_lt.2 h]
theorem getD_lt_size {l : Array Bool} {j : Nat} (h : l.getD j false = true) : j < l.size := by
  rcases Nat.lt_or_ge j l.size with h1 | h1
  · exact h1
  · simp [Array.getD_eq_getD_getElem?, Nat.not_lt.2 h1] at h
theorem getD_set_self' {l : Array Bool} {j : Nat} (h : j < l.size) (d : Bool) : (l.setIfInBounds j true).getD j d = true := by
  simp [Array.getD_eq_getD_getElem?, h]

section
variable {listed listed' : Array Bool} {ex : List Nat}
theorem Lis.up (h : Lis listed listed' ex) {j : Nat} (hj : listed.getD j false = true) : listed'.getD j false = true := (h.get j (getD_lt_size hj)).2 (.inl hj)
theorem Lis.ready (h : Lis listed listed' ex) {i : Nat} (hi : i ∈ Region.ready .any ops listed) (he : i ∉ ex) : i ∈ Region.ready .any ops listed' := by
  rw [mem_ready] at *
  obtain ⟨h0, o, ho, hall⟩ := hi
  refine ⟨?_, o, ho, fun e h1 h2 => h.up (hall e h1 h2)⟩
  rw [getD_tf] at *
  refine ⟨by rw [h.size]; exact h0.1, ?_⟩
  cases hc : listed'.getD i false with
  | false => rfl
  | true => rcases (h.get i h0.1).1 hc with h1 | h1
            · rw [h0.2] at h1; cases h1
            · exact absurd h1 he
theorem setAll_get : ∀ (A : List Nat) (listed : Array Bool), Lis listed (setAll A listed) A
  | [], listed => ⟨rfl, fun j _ => by simp [setAll]⟩
  | a :: A, listed => by
    have h := setAll_get A (listed.setIfInBounds a true)
    have e : setAll (a :: A) listed = setAll A (listed.setIfInBounds a true) := rfl
    rw [e]
    refine ⟨by rw [h.size]; simp, fun j hj => ?_⟩
    rw [h.get j (by simpa using hj)]
    by_cases hja : a = j
    · subst hja
      rw [getD_set_self' hj]
      simp
    · rw [getD_set_ne false hja]
      simp only [List.mem_cons]
      constructor
      · rintro (h1 | h1)
        · exact .inl h1
        · exact .inr (.inr h1)
      · rintro (h1 | h1 | h1)
        · exact .inl h1
        · exact absurd h1.symm hja
        · exact .inr h1
/-- What may come up now, with all of A listed too. -/
theorem Lis.ready_all (h : Lis listed listed' ex) {A : List Nat} (hA : ∀ j ∈ ex, j ∈ A) {i : Nat} (hi : i ∈ Region.ready .any ops listed') (hiA : i ∉ A) : i ∈ Region.ready .any ops (setAll A listed) := by
  have hs := setAll_get A listed
  rw [mem_ready] at *
  obtain ⟨h0, o, ho, hall⟩ := hi
  rw [getD_tf] at h0
  have hlt : i < listed.size := by rw [← h.size]; exact h0.1
  refine ⟨?_, o, ho, fun e h1 h2 => ?_⟩
  · rw [getD_tf]
    refine ⟨by rw [hs.size]; exact hlt, ?_⟩
    cases hc : (setAll A listed).getD i false with
    | false => rfl
    | true => rcases (hs.get i hlt).1 hc with h1 | h1
              · rw [h.up h1] at h0; cases h0.2
              · exact absurd h1 hiA
  · have h3 := hall e h1 h2
    have hlt2 : e.on < listed.size := by rw [← h.size]; exact getD_lt_size h3
    rw [hs.get e.on hlt2]
    rcases (h.get e.on hlt2).1 h3 with h4 | h4
    · exact .inl h4
    · exact .inr (hA _ h4)
theorem Lis.set (h : Lis listed listed' ex) (i : Nat) : Lis (listed.setIfInBounds i true) (listed'.setIfInBounds i true) ex := by
  refine ⟨by simp [h.size], fun j hj => ?_⟩
  have hj' : j < listed.size := by simpa using hj
  by_cases hij : i = j
  · subst hij
    rw [getD_set_self' hj', getD_set_self' (by rw [h.size]; exact hj')]
    simp
  · rw [getD_set_ne false hij, getD_set_ne false hij]; exact h.get j hj'
theorem Lis.exec (h : Lis listed listed' ex) (i : Nat) : Lis listed (listed'.setIfInBounds i true) (i :: ex) := by
  refine ⟨by simp [h.size], fun j hj => ?_⟩
  by_cases hij : i = j
  · subst hij
    rw [getD_set_self' (by rw [h.size]; exact hj)]
    simp
  · rw [getD_set_ne false hij, h.get j hj]
    simp only [List.mem_cons]
    constructor
    · rintro (h1 | h1)
      · exact .inl h1
      · exact .inr (.inr h1)
    · rintro (h1 | h1 | h1)
      · exact .inl h1
      · exact absurd h1.symm hij
      · exact .inr h1
theorem Lis.take (h : Lis listed listed' ex) {i : Nat} (ht : takeB ops M listed i = true) (he : i ∉ ex) : takeB ops M listed' i = true := by
  unfold takeB at ht ⊢
  cases hi : ops[i]? with
  | none => rw [hi] at ht; cases ht
  | some oi =>
    rw [hi] at ht
    simp only [Bool.and_eq_true, List.all_eq_true, List.contains_iff_mem] at ht ⊢
    obtain ⟨⟨h1, h2⟩, h3⟩ := ht
    refine ⟨⟨h1, h.ready h2 he⟩, fun j hj => ?_⟩
    have h4 := h3 j hj
    cases hl : listed.getD j true with
    | false => rw [hl] at h4; simp only [Bool.or_false] at h4; simp only [Bool.or_eq_true] at h4 ⊢
               rcases h4 with (h4 | h4) | h4
               · exact .inl (.inl (.inl h4))
               · exact .inl (.inr h4)
               · exact .inr h4
    | true =>
      have : listed'.getD j true = true := by
        cases hc : listed'.getD j true with
        | true => rfl
        | false =>
          obtain ⟨h5, h6⟩ := getD_tf.1 hc
          rw [h.size] at h5
          cases hl2 : listed.getD j false with
          | true => rw [h.up hl2] at h6; cases h6
          | false => rw [getD_tf.2 ⟨h5, hl2⟩] at hl; cases hl
      simp [this]
end

section
variable {β : Bk} {st : St} {w : World} {s : Sl} {a : Act} {L : List (Nat × Nat)}

theorem v1_soft {i : Nat} {o : Oper} {K' : Sl → St → Prop} (hi : ops[i]? = some o) (hs : softO o.op = true) (hd : ∀ t, o.dst = some t → t < N) (hI : Inv X β st w) (hS : SRel X N β s a) (h : vc1 true X ops.toList o s st K') {next : Act → World → Prop}
    (hn : ∀ v x ex st' w', Below w.heap.size w w' → (∀ (r : Nat) b m, β.length ≤ r → (β ++ ex)[r]? = some (some (b, m)) → w.heap.size ≤ b) → Inv X (β ++ ex) st' w' → SRel X N (β ++ ex) (Pv.putS o.dst x s) (a.put o.dst v) → K' (Pv.putS o.dst x s) st' → next (a.put o.dst v) w') : wpOp X.P ops Q i next a w := by
  unfold wpOp
  simp only [hi]
  rcases vc1_cases hS h with ⟨hw, h⟩ | ⟨hw, h⟩
  · rw [if_pos hw]
    refine .inl ?_
    refine soft_sound' hI hS hs h fun v x ex st' w' h0 h1 h2 h3 => hn v x ex st' w' h0.b1 (fun r b m hr hb => h0.nw r b m (by have := hI.len; simp only [Cx.here]; omega) hb) h1 ((hS.ext ex).putS hd h2) h3
  · rw [if_neg (by rw [hw]; simp)]
    have e : β ++ [] = β := List.append_nil β
    refine hn undef undefA [] st w (Below.refl _ _) (fun r b m hr hb => ?_) (by rw [e]; exact hI) (by rw [e]; exact hS.putS hd (.val _)) h
    rw [e] at hb
    have := (List.getElem?_eq_some_iff.1 hb).1
    omega

theorem Pend.put (h : Pend X ops β w a L) {dst : Option Nat} {v : Value} (hd : ∀ p ∈ L, ∀ d t, alo ops p.1 = some (d, t) → dst ≠ some d) : Pend X ops β w (a.put dst v) L := by
  have := h.step (ex := []) (Below.refl _ _) (dst := dst) (v := v) (fun r b m hr hb => by rw [List.append_nil] at hb; have := (List.getElem?_eq_some_iff.1 hb).1; omega) hd
  rwa [List.append_nil] at this

/-- One that makes a variable comes up. -/
theorem alloc_early {A : List Nat} (hA : okA X.P ops A = true) {i d : Nat} {t : TypeId} (hiA : i ∈ A) (hal : alo ops i = some (d, t)) (hdN : d < N) (hI : Inv X β st w) (hS : SRel X N β s a) (hj : Sl.get s d = .junk) (hL : ∀ p ∈ L, p.1 ∈ A ∧ p.1 ≠ i) (hp : Pend X ops β w a L) {next : Act → World → Prop}
    (hn : ∀ v w' b, Below w.heap.size w w' → Inv X β st w' → SRel X N β s (a.put (some d) v) → Pend X ops β w' (a.put (some d) v) ((i, b) :: L) → next (a.put (some d) v) w') : wpOp X.P ops Q i next a w := by
  obtain ⟨o, ho, h1, h2, h3⟩ := alo_spec hal
  simp only [okA, Bool.and_eq_true, decide_eq_true_eq, List.all_eq_true] at hA
  obtain ⟨⟨hA1, hA2⟩, hA3⟩ := hA
  have hg := hA3 i hiA
  rw [hal] at hg
  obtain ⟨dd, inf, z, hdd, hinf, hz, hzs, hsz, hzz, hag⟩ := ti_good hg
  have hrun : (execOp a.eval o).run X.P w = .ok (.value (.pointer (some ⟨w.heap.size, 0, none⟩))) { w with heap := w.heap.push (.cells z.cells t) } := by
    simp [execOp, h2, Instr.alloc, zeroValue, typeInfo, hinf, hz, newVar, newRow]
  have hb : Below w.heap.size w { w with heap := w.heap.push (.cells z.cells t) } := ⟨rfl, rfl, rfl, by simp, fun k hk => by simp [Array.getElem?_push, Nat.ne_of_lt hk]⟩
  have hdist : ∀ p ∈ L, ∀ d' t', alo ops p.1 = some (d', t') → (some d : Option Nat) ≠ some d' := by
    intro p hpL d' t' hp' e
    cases e
    obtain ⟨hpA, hne⟩ := hL p hpL
    obtain ⟨k1, hk1⟩ := List.mem_iff_getElem?.1 hpA
    obtain ⟨k2, hk2⟩ := List.mem_iff_getElem?.1 hiA
    have e1 : (A.map fun a => (alo ops a).map (·.1))[k1]? = some (some d) := by rw [List.getElem?_map, hk1]; simp [hp']
    have e2 : (A.map fun a => (alo ops a).map (·.1))[k2]? = some (some d) := by rw [List.getElem?_map, hk2]; simp [hal]
    obtain ⟨l1, f1⟩ := List.getElem?_eq_some_iff.1 e1
    obtain ⟨l2, f2⟩ := List.getElem?_eq_some_iff.1 e2
    have := (List.getElem_inj hA2).1 (f1.trans f2.symm)
    subst this
    rw [hk1] at hk2
    cases hk2
    exact hne rfl
  unfold wpOp
  simp only [ho]
  rw [if_pos (by unfold Region.wanted; rw [h3])]
  refine .inl ?_
  unfold Oper.wp
  rw [hrun, Oper.upon_value, h1]
  have hst := hp.step (ex := []) hb (dst := some d) (v := .pointer (some ⟨w.heap.size, 0, none⟩)) (fun r b m hr hb => by rw [List.append_nil] at hb; have := (List.getElem?_eq_some_iff.1 hb).1; omega) hdist
  rw [List.append_nil] at hst
  have hsz2 : X.w1.heap.size ≤ w.heap.size := hI.b1.size
  refine hn _ _ w.heap.size hb (hI.grow_below hb) (hS.put_junk hj _) ⟨fun p hp2 => ?_, ?_⟩
  · rcases List.mem_cons.1 hp2 with rfl | hp3
    · refine ⟨d, t, inf, z, hal, hzz, hinf, hz, ?_, by simp, hsz2, fun r b m hr e => ?_⟩
      · have hdN' : d < a.tmps.size := by rw [hS.size]; exact hdN
        simp [Act.put, Array.getD_eq_getD_getElem?, hdN']
      · have := (hI.ow r b m hr).2; omega
    · exact hst.at' p hp3
  · rw [List.map_cons, List.nodup_cons]
    refine ⟨fun hm => ?_, hst.nd⟩
    obtain ⟨p, hpL, hp2⟩ := List.mem_map.1 hm
    obtain ⟨_, _, _, _, _, _, _, _, _, h6, _⟩ := hp.at' p hpL
    have := (Array.getElem?_eq_some_iff.1 h6).1
    omega
end

theorem nodup_map_inj {α γ : Type} {f : α → γ} {l : List α} (h : (l.map f).Nodup) {x y : α} (hx : x ∈ l) (hy : y ∈ l) (e : f x = f y) : x = y := by
  obtain ⟨k1, hk1⟩ := List.mem_iff_getElem?.1 hx
  obtain ⟨k2, hk2⟩ := List.mem_iff_getElem?.1 hy
  have e1 : (l.map f)[k1]? = some (f x) := by rw [List.getElem?_map, hk1]; rfl
  have e2 : (l.map f)[k2]? = some (f x) := by rw [List.getElem?_map, hk2, e]; rfl
  obtain ⟨l1, f1⟩ := List.getElem?_eq_some_iff.1 e1
  obtain ⟨l2, f2⟩ := List.getElem?_eq_some_iff.1 e2
  have := (List.getElem_inj h).1 (f1.trans f2.symm)
  subst this
  rw [hk1] at hk2
  exact Option.some.inj hk2

section
variable {w : World} {a : Act} {L : List (Nat × Nat)}
/-- Those that were made early become objects. -/
theorem conv {l2 : List Oper} (hnd : (L.map (·.2)).Nodup) : ∀ (A : List Nat) (β : Bk) (s : Sl) (st : St), A.Nodup → (∀ x ∈ A, ∃ b, (x, b) ∈ L) →
    (∀ p ∈ L, p.1 ∈ A → ∃ d t i z, alo ops p.1 = some (d, t) ∧ (ti X.P t).zero = z.cells.toList ∧ X.P.info? t = some i ∧ i.zero = some z ∧ a.tmps.getD d undef = .pointer (some ⟨p.2, 0, none⟩) ∧ w.heap[p.2]? = some (.cells z.cells t (0, 0)) ∧ X.w1.heap.size ≤ p.2 ∧
      ∀ (r : Nat) b m, β[r]? = some (some (b, m)) → b ≠ p.2) →
    Inv X β st w → SRel X N β s a → vcO true X ops.toList ((A.filterMap fun i => ops[i]?) ++ l2) s st K → ∃ β' s' st', Inv X β' st' w ∧ SRel X N β' s' a ∧ vcO true X ops.toList l2 s' st' K := by
  intro A
  induction A with
  | nil => intro β s st _ _ _ hI hS h; exact ⟨β, s, st, hI, hS, h⟩
  | cons x A ih =>
    intro β s st hAn hL hp hI hS h
    obtain ⟨b, hb⟩ := hL x (by simp)
    obtain ⟨d, t, i, z, h1, h2, h3, h4, h5, h6, h7, h8⟩ := hp (x, b) hb (by simp)
    obtain ⟨o, ho, g1, g2, g3⟩ := alo_spec h1
    simp only [List.filterMap_cons, ho, List.cons_append] at h
    have h' : vc1 true X ops.toList o s st (fun s st => vcO true X ops.toList ((A.filterMap fun i => ops[i]?) ++ l2) s st K) := h
    unfold vc1 at h'
    rw [g3] at h'
    simp only [g2, g1] at h'
    obtain ⟨hg, h'⟩ : (ti X.P t).good = true ∧ vcO true X ops.toList ((A.filterMap fun i => ops[i]?) ++ l2) ((d, .ptr st.length 0) :: s) (st ++ [some ((ti X.P t).zero.map AV.val)]) K := h'
    have hinv := hI.adopt h6 h7 h8 ((ti X.P t).zero.map AV.val) (by rw [h2]; simp) (fun j y hy => by
      rw [h2, List.getElem?_map] at hy
      cases hj : z.cells.toList[j]? with
      | none => simp [hj] at hy
      | some u =>
        simp only [hj, Option.map_some, Option.some.injEq] at hy
        subst hy
        exact ⟨u, by simpa using hj, .val u⟩)
    rw [List.nodup_cons] at hAn
    refine ih _ _ _ hAn.2 (fun y hy => hL y (by simp [hy])) (fun p hpL hpA => ?_) hinv ?_ h'
    · obtain ⟨d', t', i', z', k1, k2, k3, k4, k5, k6, k7, k8⟩ := hp p hpL (by simp [hpA])
      refine ⟨d', t', i', z', k1, k2, k3, k4, k5, k6, k7, fun r b' m hr e => ?_⟩
      rcases Nat.lt_or_ge r β.length with h' | h'
      · rw [List.getElem?_append_left h'] at hr; exact k8 r b' m hr e
      · rw [List.getElem?_append_right h'] at hr
        rcases Nat.eq_zero_or_pos (r - β.length) with h0 | h0
        · rw [h0] at hr
          simp only [List.getElem?_cons_zero, Option.some.injEq, Prod.mk.injEq] at hr
          have := nodup_map_inj hnd hb hpL (show b = p.2 by rw [hr.1, e])
          rw [← this] at hpA
          exact hAn.1 hpA
        · rw [List.getElem?_eq_none (by simp; omega)] at hr; cases hr
    · refine ⟨hS.size, hS.defers, fun k => ?_⟩
      rw [get_cons]
      by_cases hk : k = d
      · subst hk
        simp only [BEq.rfl, cond_true]
        rw [h5, ← hI.len]
        exact .ptr (m := z.cells.size) (by simp)
      · have hbk : (k == d) = false := by simpa using hk
        rw [hbk, cond_false]
        exact (hS.slot k).ext _
end

theorem late_sound (hM : soundM ops M = true) (hns : Region.noSelect ops = true) (hd : ∀ o ∈ ops.toList, ∀ t, o.dst = some t → t < N) (hQ : ∀ β s st a w, Inv X β st w → SRel X N β s a → K s st → Q .normal a w)
    (hQp : ∀ c a w, ¬ Q (.panic c) a w) {A l2 : List Nat} (hA : okA X.P ops A = true) : ∀ (n : Nat) (l1 : List Nat) (listed listed' : Array Bool) (β : Bk) (s : Sl) (st : St) (a : Act) (w : World) (L : List (Nat × Nat)),
      okP ops M A l2 l1 listed = true → listed.size = ops.size → Closed ops M listed' → Lis listed listed' (L.map (·.1)) → (∀ p ∈ L, p.1 ∈ A) → (∀ x ∈ A, ∀ d t, alo ops x = some (d, t) → Sl.get s d = .junk) → Pend X ops β w a L → Inv X β st w → SRel X N β s a →
      vcO true X ops.toList ((l1 ++ (A ++ l2)).filterMap fun i => ops[i]?) s st K → l1.length + (A.filter fun x => !(L.map (·.1)).contains x).length + l2.length ≤ n → wpAnyF X.P ops Q n listed' a w := by
  have hA' := hA
  simp only [okA, Bool.and_eq_true, decide_eq_true_eq, List.all_eq_true] at hA'
  obtain ⟨⟨hA1, hA2⟩, hA3⟩ := hA'
  have halo : ∀ x ∈ A, ∃ d t, alo ops x = some (d, t) ∧ d < N := by
    intro x hx
    have := hA3 x hx
    cases h : alo ops x with
    | none => rw [h] at this; cases this
    | some p =>
      obtain ⟨d, t⟩ := p
      obtain ⟨o, ho, h1, _, _⟩ := alo_spec h
      exact ⟨d, t, rfl, hd o (by simpa using Array.mem_of_getElem? ho) d h1⟩
  -- one of A comes up
  have early : ∀ (n : Nat) (listed listed' : Array Bool) (β : Bk) (s : Sl) (st : St) (a : Act) (w : World) (L : List (Nat × Nat)) (j : Nat), j ∈ A → j ∈ Region.ready .any ops listed' → listed.size = ops.size → Lis listed listed' (L.map (·.1)) → (∀ p ∈ L, p.1 ∈ A) → (∀ x ∈ A, ∀ d t, alo ops x = some (d, t) → Sl.get s d = .junk) → Pend X ops β w a L → Inv X β st w → SRel X N β s a →
      (∀ a' w' b, Inv X β st w' → SRel X N β s a' → Pend X ops β w' a' ((j, b) :: L) → (A.filter fun x => !(((j, b) :: L).map (·.1)).contains x).length < (A.filter fun x => !(L.map (·.1)).contains x).length → wpAnyF X.P ops Q n (listed'.setIfInBounds j true) a' w') →
      wpOp X.P ops Q j (fun a' w' => (softAt ops j = true → Below w.heap.size w w') ∧ wpAnyF X.P ops Q n (listed'.setIfInBounds j true) a' w') a w := by
    intro n listed listed' β s st a w L j hjA hjr hsz hLis hLA hjk hp hI hS hn
    obtain ⟨d, t, hal, hdN⟩ := halo j hjA
    have hjL : j ∉ L.map (·.1) := by
      intro h
      have h0 := (mem_ready.1 hjr).1
      rw [getD_tf] at h0
      have := (hLis.get j (by rw [← hLis.size]; exact h0.1)).2 (.inr h)
      rw [this] at h0; cases h0.2
    refine alloc_early hA hjA hal hdN hI hS (hjk j hjA d t hal) (fun p hpL => ⟨hLA p hpL, fun e => hjL (List.mem_map.2 ⟨p, hpL, e⟩)⟩) hp fun v w' b hb h1 h2 h3 => ⟨fun _ => hb, hn _ _ b h1 h2 h3 ?_⟩
    have e : (A.filter fun x => !(((j, b) :: L).map (·.1)).contains x) = (A.filter fun x => !(L.map (·.1)).contains x).filter fun x => !(x == j) := by
      rw [List.filter_filter]
      refine List.filter_congr fun x _ => ?_
      simp only [List.map_cons, List.contains_cons]
      cases (x == j) <;> simp
    rw [e, List.length_filter_lt_length_iff_exists]
    exact ⟨j, List.mem_filter.2 ⟨hjA, by simpa using hjL⟩, by simp⟩
  -- all of A have come up
  have full : ∀ (n : Nat) (listed listed' : Array Bool) (β : Bk) (s : Sl) (st : St) (a : Act) (w : World) (L : List (Nat × Nat)), okP ops M A l2 [] listed = true → Closed ops M listed' → Lis listed listed' (L.map (·.1)) → (∀ p ∈ L, p.1 ∈ A) → Pend X ops β w a L → Inv X β st w → SRel X N β s a →
      vcO true X ops.toList ((A ++ l2).filterMap fun i => ops[i]?) s st K → (A.filter fun x => !(L.map (·.1)).contains x) = [] → l2.length ≤ n → wpAnyF X.P ops Q n listed' a w := by
    intro n listed listed' β s st a w L hok hC hLis hLA hp hI hS h h0 hn
    simp only [okP, Bool.and_eq_true] at hok
    have hall : ∀ x ∈ A, x ∈ L.map (·.1) := fun x hx => by
      have := List.filter_eq_nil_iff.1 h0 x hx
      simpa using this
    rw [List.filterMap_append] at h
    obtain ⟨β', s', st', h1, h2, h3⟩ := conv hp.nd A β s st hA1 (fun x hx => by
      obtain ⟨p, hp1, hp2⟩ := List.mem_map.1 (hall x hx)
      exact ⟨p.2, hp2 ▸ hp1⟩) (fun p hpL _ => hp.at' p hpL) hI hS h
    have he : listed' = setAll A listed := by
      have hs := setAll_get A listed
      refine Array.ext (by rw [hLis.size, hs.size]) fun j hj1 hj2 => ?_
      have hj : j < listed.size := by rw [← hLis.size]; exact hj1
      have e1 : listed'.getD j false = listed'[j] := by simp [Array.getD_eq_getD_getElem?, hj1]
      have e2 : (setAll A listed).getD j false = (setAll A listed)[j] := by simp [Array.getD_eq_getD_getElem?, hj2]
      rw [← e1, ← e2, Bool.eq_iff_iff, hLis.get j hj, hs.get j hj]
      constructor
      · rintro (h4 | h4)
        · exact .inl h4
        · obtain ⟨p, hp1, hp2⟩ := List.mem_map.1 h4
          exact .inr (hp2 ▸ hLA p hp1)
      · rintro (h4 | h4)
        · exact .inl h4
        · exact .inr (hall j h4)
    rw [he] at hC ⊢
    exact okS_sound hM hns hd hQ hQp l2 n _ β' s' st' a w hok.2 hC h1 h2 h3 hn
  intro n
  induction n with
  | zero =>
    intro l1 listed listed' β s st a w L hok hsz hC hLis hLA hjk hp hI hS h hn
    have hl1 : l1 = [] := List.eq_nil_of_length_eq_zero (by omega)
    have hA0 : (A.filter fun x => !(L.map (·.1)).contains x) = [] := List.eq_nil_of_length_eq_zero (by omega)
    subst hl1
    exact full 0 listed listed' β s st a w L hok hC hLis hLA hp hI hS h hA0 (by omega)
  | succ n ih =>
    intro l1 listed listed' β s st a w L hok hsz hC hLis hLA hjk hp hI hS h hn
    cases l1 with
    | nil =>
      by_cases h0 : (A.filter fun x => !(L.map (·.1)).contains x) = []
      · exact full (n + 1) listed listed' β s st a w L hok hC hLis hLA hp hI hS h h0 (by omega)
      · obtain ⟨x, hx⟩ := List.exists_mem_of_ne_nil _ h0
        obtain ⟨hxA, hxL⟩ := List.mem_filter.1 hx
        have hxL : x ∉ L.map (·.1) := by simpa using hxL
        have hok' := hok
        simp only [okP, Bool.and_eq_true, List.all_eq_true, List.contains_iff_mem, List.mem_range, Bool.or_eq_true] at hok'
        obtain ⟨⟨hrA, hwait⟩, _⟩ := hok'
        have hxr := hLis.ready (hrA x hxA) hxL
        refine ⟨fun h2 => (by rw [h2] at hxr; cases hxr), fun j hj => ?_⟩
        have hjA : j ∈ A := by
          obtain ⟨hj0, o, ho, _⟩ := mem_ready.1 hj
          rw [getD_tf] at hj0
          have hjs : j < listed.size := by rw [← hLis.size]; exact hj0.1
          rcases hwait j (by rw [← hsz]; exact hjs) with (h1 | h1) | h1
          · exfalso
            have h2 : listed.getD j false = true := by
              cases hc : listed.getD j false with
              | true => rfl
              | false => rw [getD_tf.2 ⟨hjs, hc⟩] at h1; cases h1
            rw [hLis.up h2] at hj0; cases hj0.2
          · exact h1
          · exfalso
            obtain ⟨d, t, hal, _⟩ := halo x hxA
            obtain ⟨o', ho', _⟩ := alo_spec hal
            have h3 := ready_anc hM hC (Array.getElem?_eq_some_iff.1 ho').1 hj (h1 x hxA)
            have hxs := getD_lt_size h3
            rw [hLis.size] at hxs
            rcases (hLis.get x hxs).1 h3 with h4 | h4
            · have h5 := (mem_ready.1 (hrA x hxA)).1
              rw [getD_tf] at h5
              rw [h4] at h5; cases h5.2
            · exact hxL h4
        refine early n listed listed' β s st a w L j hjA hj hsz hLis hLA hjk hp hI hS fun a' w' b h1 h2 h3 h4 => ?_
        refine ih [] listed _ β s st a' w' ((j, b) :: L) hok hsz (hC.set hM hj) (hLis.exec j) (fun p hp2 => ?_) hjk h3 h1 h2 h (by omega)
        rcases List.mem_cons.1 hp2 with rfl | hp2
        · exact hjA
        · exact hLA p hp2
    | cons i l1 =>
      simp only [okP, Bool.and_eq_true, Bool.not_eq_true', Bool.or_eq_true] at hok
      obtain ⟨⟨⟨hiA, hmt⟩, hcase⟩, hok⟩ := hok
      have hiA : i ∉ A := by simpa using hiA
      cases ho : ops[i]? with
      | none => rw [ho] at hmt; cases hmt
      | some o =>
        rw [ho] at hmt
        simp only [List.all_eq_true] at hmt
        have hdst : ∀ x ∈ A, ∀ d t, alo ops x = some (d, t) → o.dst ≠ some d := by
          intro x hx d t hal
          have := hmt x hx
          rw [hal] at this
          simpa using this
        have hd' := hd o (by simpa using Array.mem_of_getElem? ho)
        simp only [List.cons_append, List.filterMap_cons, ho] at h
        have hiL : i ∉ L.map (·.1) := fun hm => by
          obtain ⟨p, hp1, hp2⟩ := List.mem_map.1 hm
          exact hiA (hp2 ▸ hLA p hp1)
        have hjk' : ∀ (x : AV), ∀ y ∈ A, ∀ d t, alo ops y = some (d, t) → Sl.get (Pv.putS o.dst x s) d = .junk := by
          intro x y hy d t hal
          have h1 := hdst y hy d t hal
          cases hdd : o.dst with
          | none => exact hjk y hy d t hal
          | some k =>
            have hk : (d == k) = false := by
              rw [hdd] at h1
              simpa using fun e => h1 (by rw [e])
            simp only [Pv.putS, get_cons, hk, cond_false]
            exact hjk y hy d t hal
        have hpd : ∀ p ∈ L, ∀ d t, alo ops p.1 = some (d, t) → o.dst ≠ some d := fun p hpL => hdst p.1 (hLA p hpL)
        have hlen : l1.length + (A.filter fun x => !(L.map (·.1)).contains x).length + l2.length ≤ n := by simp only [List.length_cons] at hn; omega
        rcases hcase with htake | honly
        · have ht := hLis.take htake hiL
          have hir := (takeB_spec ho ht).2.1
          exact take_sound hM hns hQp ho hd' ht hC hI hS h fun v x h2 h3 => ih l1 (listed.setIfInBounds i true) _ β _ st _ w L hok (by simpa using hsz) (hC.set hM hir) (hLis.set i) hLA (hjk' x) (hp.put hpd) hI h2 h3 hlen
        · simp only [List.contains_iff_mem, List.all_eq_true, beq_iff_eq] at honly
          obtain ⟨⟨hsoft, hrd⟩, hall⟩ := honly
          have hir := hLis.ready hrd hiL
          refine ⟨fun h2 => (by rw [h2] at hir; cases hir), fun j hj => ?_⟩
          by_cases hjA : j ∈ A
          · refine early n listed listed' β s st a w L j hjA hj hsz hLis hLA hjk hp hI hS fun a' w' b h1 h2 h3 h4 => ?_
            refine ih (i :: l1) listed _ β s st a' w' ((j, b) :: L) (by simp only [okP, Bool.and_eq_true, Bool.not_eq_true', Bool.or_eq_true]; exact ⟨⟨⟨by simpa using hiA, by rw [ho]; simp only [List.all_eq_true]; exact hmt⟩, .inr (by simp only [List.contains_iff_mem, List.all_eq_true, beq_iff_eq]; exact ⟨⟨hsoft, hrd⟩, hall⟩)⟩, hok⟩) hsz (hC.set hM hj) (hLis.exec j) (fun p hp2 => ?_) hjk h3 h1 h2 (by simp only [List.cons_append, List.filterMap_cons, ho]; exact h) (by simp only [List.length_cons] at hn ⊢; omega)
            rcases List.mem_cons.1 hp2 with rfl | hp2
            · exact hjA
            · exact hLA p hp2
          · have hji : j = i := hall j (hLis.ready_all (A := A) (fun x hx => by obtain ⟨p, hp1, hp2⟩ := List.mem_map.1 hx; exact hp2 ▸ hLA p hp1) hj hjA)
            subst hji
            have hsoft' : softO o.op = true := by simpa [softAt, ho] using hsoft
            exact v1_soft ho hsoft' hd' hI hS h fun v x ex st' w' hb hex h1 h2 h3 => ⟨fun _ => hb, ih l1 (listed.setIfInBounds j true) _ (β ++ ex) _ st' _ w' L hok (by simpa using hsz) (hC.set hM hj) (hLis.set j) hLA (hjk' x) (hp.step hb hex hpd) h1 h2 h3 hlen⟩

theorem tree_sound (hM : soundM ops M = true) (hns : Region.noSelect ops = true) (hd : ∀ o ∈ ops.toList, ∀ t, o.dst = some t → t < N) (hQ : ∀ β s st a w, Inv X β st w → SRel X N β s a → K s st → Q .normal a w)
    (hQp : ∀ c a w, ¬ Q (.panic c) a w) : ∀ (t : Tr) (n : Nat) (listed : Array Bool) (β : Bk) (s : Sl) (st : St) (a : Act) (w : World), okT ops M t listed = true → t.deep ≤ n → Closed ops M listed → Inv X β st w → SRel X N β s a →
      runD X ops K t s st → wpAnyF X.P ops Q n listed a w := by
  intro t
  induction t with
  | fin =>
    intro n listed β s st a w hok hn hC hI hS h
    have hr : Region.ready .any ops listed = [] := by simpa [okT] using hok
    cases n with
    | zero => exact ⟨hr, hQ _ _ _ _ _ hI hS h⟩
    | succ n => exact ⟨fun _ => hQ _ _ _ _ _ hI hS h, by rw [hr]; simp⟩
  | take i t ih =>
    intro n listed β s st a w hok hn hC hI hS h
    simp only [okT, Bool.and_eq_true, Bool.or_eq_true, beq_iff_eq] at hok
    cases n with
    | zero => simp [Tr.deep] at hn
    | succ n =>
      have hn' : t.deep ≤ n := by simpa [Tr.deep] using hn
      simp only [runD] at h
      cases ho : ops[i]? with
      | none => rw [ho] at h; exact h.elim
      | some o =>
        rw [ho] at h
        have hd' := hd o (by simpa using Array.mem_of_getElem? ho)
        rcases hok.1 with h1 | h1
        · exact take_sound hM hns hQp ho hd' h1 hC hI hS h fun v x h2 h3 => ih n _ _ _ _ _ _ hok.2 hn' (hC.set hM (takeB_spec ho h1).2.1) hI h2 h3
        · refine ⟨fun h2 => (by rw [h2] at h1; cases h1), fun j hj => ?_⟩
          have hji : j = i := by rw [h1] at hj; simpa using hj
          subst hji
          exact v1_sound ho hd' hI hS h fun β' s' st' a' w' hb h1 h2 h3 => ⟨fun hs => hb rfl (by simpa [softAt, ho] using hs), ih n _ _ _ _ _ _ hok.2 hn' (hC.set hM hj) h1 h2 h3⟩
  | two i t j u iht ihu =>
    intro n listed β s st a w hok hn hC hI hS h
    simp only [okT, Bool.and_eq_true, beq_iff_eq] at hok
    cases n with
    | zero => simp [Tr.deep] at hn
    | succ n =>
      have hn' : t.deep ≤ n ∧ u.deep ≤ n := by simp only [Tr.deep] at hn; omega
      simp only [runD] at h
      obtain ⟨ha, hb⟩ := h
      refine ⟨fun h2 => (by rw [hok.1.1] at h2; cases h2), fun q hq => ?_⟩
      have hq' := hq
      rw [hok.1.1] at hq'
      rcases List.mem_cons.1 hq' with rfl | hq'
      · cases ho : ops[q]? with
        | none => rw [ho] at ha; exact ha.elim
        | some o =>
          rw [ho] at ha
          have hd' := hd o (by simpa using Array.mem_of_getElem? ho)
          exact v1_sound ho hd' hI hS ha fun β' s' st' a' w' hb h1 h2 h3 => ⟨fun hs => hb rfl (by simpa [softAt, ho] using hs), iht n _ _ _ _ _ _ hok.1.2 hn'.1 (hC.set hM hq) h1 h2 h3⟩
      · have hqj : q = j := by simpa using hq'
        subst hqj
        cases ho : ops[q]? with
        | none => rw [ho] at hb; exact hb.elim
        | some o =>
          rw [ho] at hb
          have hd' := hd o (by simpa using Array.mem_of_getElem? ho)
          exact v1_sound ho hd' hI hS hb fun β' s' st' a' w' hb h1 h2 h3 => ⟨fun hs => hb rfl (by simpa [softAt, ho] using hs), ihu n _ _ _ _ _ _ hok.2 hn'.2 (hC.set hM hq) h1 h2 h3⟩

theorem orders_sound (hM : soundM ops M = true) (hns : Region.noSelect ops = true) (hd : ∀ o ∈ ops.toList, ∀ t, o.dst = some t → t < N) (hQ : ∀ β s st a w, Inv X β st w → SRel X N β s a → K s st → Q .normal a w)
    (hQp : ∀ c a w, ¬ Q (.panic c) a w) : ∀ (t : Tn) (n : Nat) (listed : Array Bool) (β : Bk) (s : Sl) (st : St) (a : Act) (w : World), Closed ops M listed → Inv X β st w → SRel X N β s a →
      (okN ops M false t listed = true → t.deep ≤ n → runN X ops K false t s st → wpAnyF X.P ops Q n listed a w) ∧
      (okN ops M true t listed = true → t.deep ≤ n + 1 → runN X ops K true t s st → ∀ i ∈ t.keys, i ∈ Region.ready .any ops listed → wpOp X.P ops Q i (fun a' w' => (softAt ops i = true → Below w.heap.size w w') ∧ wpAnyF X.P ops Q n (listed.setIfInBounds i true) a' w') a w) := by
  intro t
  induction t with
  | fin =>
    intro n listed β s st a w hC hI hS
    refine ⟨fun hok hn h => ?_, fun _ _ _ i hi => by cases hi⟩
    have hr : Region.ready .any ops listed = [] := by simpa [okN] using hok
    cases n with
    | zero => exact ⟨hr, hQ _ _ _ _ _ hI hS h⟩
    | succ n => exact ⟨fun _ => hQ _ _ _ _ _ hI hS h, by rw [hr]; simp⟩
  | take i t ih =>
    intro n listed β s st a w hC hI hS
    refine ⟨fun hok hn h => ?_, fun _ _ _ i hi => by cases hi⟩
    simp only [okN, Bool.and_eq_true, Bool.not_false, true_and] at hok
    cases n with
    | zero => simp [Tn.deep] at hn
    | succ n =>
      have hn' : t.deep ≤ n := by simpa [Tn.deep] using hn
      simp only [runN, Bool.false_eq_true, if_false] at h
      cases ho : ops[i]? with
      | none => rw [ho] at h; exact h.elim
      | some o =>
        rw [ho] at h
        have hd' := hd o (by simpa using Array.mem_of_getElem? ho)
        exact take_sound hM hns hQp ho hd' hok.1 hC hI hS h fun v x h2 h3 => (ih n _ _ _ _ _ _ (hC.set hM (takeB_spec ho hok.1).2.1) hI h2).1 hok.2 hn' h3
  | alt i t u iht ihu =>
    intro n listed β s st a w hC hI hS
    have key : ∀ n, okN ops M false t (listed.setIfInBounds i true) = true → okN ops M true u listed = true → t.deep ≤ n → u.deep ≤ n + 1 → runN X ops K true (.alt i t u) s st → ∀ j ∈ (Tn.alt i t u).keys, j ∈ Region.ready .any ops listed →
        wpOp X.P ops Q j (fun a' w' => (softAt ops j = true → Below w.heap.size w w') ∧ wpAnyF X.P ops Q n (listed.setIfInBounds j true) a' w') a w := by
      intro n h1 h2 h3 h4 h j hj hr
      obtain ⟨h5, h6⟩ := h
      rcases List.mem_cons.1 hj with rfl | hj
      · cases ho : ops[j]? with
        | none => rw [ho] at h5; exact h5.elim
        | some o =>
          rw [ho] at h5
          have hd' := hd o (by simpa using Array.mem_of_getElem? ho)
          exact v1_sound ho hd' hI hS h5 fun β' s' st' a' w' hb g1 g2 g3 => ⟨fun hs => hb rfl (by simpa [softAt, ho] using hs), (iht n _ _ _ _ _ _ (hC.set hM hr) g1 g2).1 h1 h3 g3⟩
      · exact (ihu n listed β s st a w hC hI hS).2 h2 h4 h6 j hj hr
    refine ⟨fun hok hn h => ?_, fun hok hn h => ?_⟩
    · simp only [okN, Bool.and_eq_true, Bool.false_or, beq_iff_eq] at hok
      obtain ⟨⟨hr, h1⟩, h2⟩ := hok
      cases n with
      | zero => simp [Tn.deep] at hn
      | succ n =>
        simp only [Tn.deep] at hn
        refine ⟨fun h3 => (by rw [hr] at h3; cases h3), fun j hj => ?_⟩
        exact key n h1 h2 (by omega) (by omega) h j (by rw [hr] at hj; exact hj) hj
    · simp only [okN, Bool.and_eq_true, Bool.true_or, true_and] at hok
      simp only [Tn.deep] at hn
      exact key n hok.1 hok.2 (by omega) (by omega) h

theorem okS_length : ∀ (l : List Nat) (listed : Array Bool), okS ops M l listed = true → l.length ≤ (listed.toList.count false) := by
  intro l
  induction l with
  | nil => intro _ _; simp
  | cons i l ih =>
    intro listed h
    simp only [okS, Bool.and_eq_true, Bool.or_eq_true, beq_iff_eq] at h
    obtain ⟨h1, h2⟩ := h
    have hr : i ∈ Region.ready .any ops listed := by
      rcases h1 with h1 | h1
      · cases ho : ops[i]? with
        | none => simp [takeB, ho] at h1
        | some o => exact (takeB_spec ho h1).2.1
      · rw [h1]; simp
    have h0 := (mem_ready.1 hr).1
    have h3 := ih _ h2
    have hlt : i < listed.size := by
      rcases Nat.lt_or_ge i listed.size with h | h
      · exact h
      · simp [Array.getD_eq_getD_getElem?, Array.getElem?_eq_none h] at h0
    have hf : listed.toList[i]'(by simpa using hlt) = false := by simpa [Array.getD_eq_getD_getElem?, hlt] using h0
    rw [Array.toList_setIfInBounds, List.count_set (by simpa using hlt)] at h3
    have hpos : 0 < listed.toList.count false := List.count_pos_iff.2 (hf ▸ List.getElem_mem _)
    simp only [hf, BEq.rfl, if_true] at h3
    simp only [List.length_cons]
    rw [if_neg (by decide)] at h3
    omega

theorem mask_get (ops : Array Oper) : ∀ (A : List Nat) (s : Sl), ∀ x ∈ A, ∀ d t, alo ops x = some (d, t) → Sl.get (maskS ops A s) d = .junk := by
  intro A
  induction A with
  | nil => intro s x hx; cases hx
  | cons a A ih =>
    intro s x hx d t hal
    rcases List.mem_cons.1 hx with rfl | hx
    · unfold maskS
      rw [hal]
      simp [get_cons]
    · unfold maskS
      cases alo ops a with
      | none => exact ih s x hx d t hal
      | some p =>
        obtain ⟨k, t'⟩ := p
        simp only [get_cons]
        cases (d == k)
        · exact ih s x hx d t hal
        · rfl
theorem SRel.mask {β : Bk} {s : Sl} {a : Act} (h : SRel X N β s a) : ∀ A, SRel X N β (maskS ops A s) a
  | [] => h
  | x :: A => by
    unfold maskS
    have ih := SRel.mask h A
    cases alo ops x with
    | none => exact ih
    | some p =>
      obtain ⟨k, t⟩ := p
      refine ⟨ih.size, ih.defers, fun j => ?_⟩
      simp only [get_cons]
      cases (j == k)
      · exact ih.slot j
      · exact .junk _

theorem vcR_sound (hm : X.P.follows .mixedOrders = true) (hd : ∀ o ∈ ops.toList, ∀ t, o.dst = some t → t < N) {id : Nat} {β : Bk} {s : Sl} {st : St} {a : Act} {w : World} (hI : Inv X β st w) (hS : SRel X N β s a)
    (h : vcR X ops s st K) : (Code.region id ops true).wp X.P (fun e a w => e = .normal ∧ ∃ β s st, Inv X β st w ∧ SRel X N β s a ∧ K s st) a w := by
  obtain ⟨M, hM, hns, h⟩ := h
  refine wp_region_any hm (wpAny_of_F _ _ _ _ ?_)
  have hI' : Inv X β st { w with drawn := w.drawn + 1 } := hI.grow_below ⟨rfl, rfl, rfl, Nat.le_refl _, fun _ _ => rfl⟩
  rcases h with ⟨l, hl, h⟩ | h | ⟨A, l1, l2, hle, hA, hl, h⟩ | ⟨t, hn, hok, h⟩ | ⟨t, hn, hok, h⟩
  · refine okS_sound hM hns hd (fun β s st a w h1 h2 h3 => ⟨rfl, β, s, st, h1, h2, h3⟩) (fun c a w h => by cases h.1) l _ _ _ _ _ _ _ hl start_closed hI' hS h ?_
    have := okS_length l _ hl
    refine Nat.le_trans this ?_
    refine Nat.le_trans (List.count_le_length ..) ?_
    simp [start]
  · exact vcD_sound hM hns hd (fun β s st a w h1 h2 h3 => ⟨rfl, β, s, st, h1, h2, h3⟩) (fun c a w h => by cases h.1) _ _ _ _ _ _ _ start_closed hI' hS h
  · have h0 : A.filter (fun x => !(([] : List (Nat × Nat)).map (·.1)).contains x) = A := List.filter_eq_self.2 fun x _ => by simp
    exact late_sound hM hns hd (fun β s st a w h1 h2 h3 => ⟨rfl, β, s, st, h1, h2, h3⟩) (fun c a w h => by cases h.1) hA ops.size l1 (start ops) (start ops) β _ st a _ [] hl (by simp [start]) start_closed ⟨rfl, fun j _ => by simp⟩ (by simp) (mask_get ops A s) ⟨by simp, by simp⟩ hI' (hS.mask A) h (by rw [h0]; exact hle)
  · exact tree_sound hM hns hd (fun β s st a w h1 h2 h3 => ⟨rfl, β, s, st, h1, h2, h3⟩) (fun c a w h => by cases h.1) t ops.size _ _ _ _ _ _ hok hn start_closed hI' hS h
  · exact (orders_sound hM hns hd (fun β s st a w h1 h2 h3 => ⟨rfl, β, s, st, h1, h2, h3⟩) (fun c a w h => by cases h.1) t ops.size _ _ _ _ _ _ start_closed hI' hS).1 hok hn h
end
end Go.Proofs.Pv
