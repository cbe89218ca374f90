/- The engine's tenth part: code, functions, contracts. -/
import Derived.Test.YtmclabehpfpnnaaGreatDoorE9
set_option linter.unusedSimpArgs false
set_option linter.unusedVariables false
namespace Go.Proofs.Pv
open Go Go.RowKit

abbrev Post := Exit → Sl → St → Prop

def thenP (F : Sl → St → Prop) (K : Post) : Post := fun e s st => match e with
  | .normal => F s st
  | e => K e s st
def blkP (id : Nat) (K : Post) : Post := fun e s st => match e with
  | .exit i => bif i == id then K .normal s st else K (.exit i) s st
  | e => K e s st
def scpP (K : Post) : Post := fun e s st => match e with
  | .goto _ => False
  | e => K e s st

/-- Some slots forgotten. -/
def Fit (s s' : Sl) : Prop := ∀ k, Sl.get s' k = .junk ∨ Sl.get s' k = Sl.get s k

def vc (X : Cx) : Code → Post → Sl → St → Prop
  | .skip, K, s, st => K .normal s st
  | .region _ ops draw, K, s, st => if draw = true then vcR X ops s st (K .normal) else vcO false X ops.toList ops.toList s st (K .normal)
  | .seq a b, K, s, st => vc X a (thenP (vc X b K) K) s st
  | .cond c a b, K, s, st => match ev s c with
    | .val (.bool t) => if t = true then vc X a K s st else vc X b K s st
    | _ => False
  | .block id c, K, s, st => vc X c (blkP id K) s st
  | .loop c, K, s, st => ∃ I : Nat → Sl → St → Prop, (∃ n s', Fit s s' ∧ I n s' st) ∧ ∀ n s' st', I n s' st' → ∃ J : Sl → St → Prop, (∀ s2 st2, J s2 st2 → ∃ m s3, m < n ∧ Fit s2 s3 ∧ I m s3 st2) ∧ vc X c (thenP J K) s' st'
  | .exit i, K, s, st => K (.exit i) s st
  | .ret, K, s, st => K .ret s st
  | .label _, K, s, st => K .normal s st
  | .scope c, K, s, st => vc X c (scpP K) s st
  | _, _, _, _ => False

def okD (N : Nat) (o : Oper) : Bool := match o.dst with
  | some d => decide (d < N)
  | none => true
def okC (N : Nat) : Code → Bool
  | .region _ ops _ => ops.all (okD N)
  | .seq a b => okC N a && okC N b
  | .cond _ a b => okC N a && okC N b
  | .block _ c => okC N c
  | .loop c => okC N c
  | .scope c => okC N c
  | _ => true

theorem okD_spec {N : Nat} {ops : Array Oper} (h : ops.all (okD N) = true) : ∀ o ∈ ops.toList, ∀ t, o.dst = some t → t < N := by
  intro o ho t ht
  have := Array.all_eq_true_iff_forall_mem.1 h o (by simpa using ho)
  simpa [okD, ht] using this

section
variable {X : Cx} {N : Nat}

def conc (X : Cx) (N : Nat) (K : Post) : Exit → Act → World → Prop := fun e a w => ∃ β s st, Inv X β st w ∧ SRel X N β s a ∧ K e s st

theorem SRel.fit {β : Bk} {s s' : Sl} {a : Act} (h : SRel X N β s a) (hf : Fit s s') : SRel X N β s' a :=
  ⟨h.size, h.defers, fun k => by
    rcases hf k with e | e
    · rw [e]; exact .junk _
    · rw [e]; exact h.slot k⟩

theorem wp_loop_n {P : Program} {c : Code} {Q : Exit → Act → World → Prop} {a : Act} {w : World} (I : Nat → Act → World → Prop) {n : Nat} (h₀ : I n a w)
    (round : ∀ n a w, I n a w → c.wp P (Exit.then (fun a' w' => ∃ m, m < n ∧ I m a' w') Q) a w) : (Code.loop c).wp P Q a w := by
  intro b k cs
  have key : ∀ n a w, I n a w → ∃ e a' w', Q e a' w' ∧ Arrives P (lone (b.at a (.code c :: .inLoop c :: k)) cs w) b k cs e a' w' := by
    intro n
    induction n using Nat.strongRecOn with
    | _ n ih =>
      intro a w hI
      obtain ⟨e, a₁, w₁, hq, harr⟩ := round n a w hI b (.inLoop c :: k) cs
      cases e with
      | normal =>
        obtain ⟨m, hlt, hI₁⟩ := hq
        obtain ⟨e₂, a₂, w₂, hq₂, harr₂⟩ := ih m hlt a₁ w₁ hI₁
        exact ⟨e₂, a₂, w₂, hq₂, .of_steps (Steps.trans harr (.one step_inLoop)) harr₂⟩
      | _ => exact ⟨_, a₁, w₁, hq, .pass (x := .inLoop c) rfl (fun _ _ => .inl (by simp)) harr⟩
  obtain ⟨e, a', w', q, r⟩ := key n a w h₀
  exact ⟨e, a', w', q, .of_steps (.one step_loop) r⟩

theorem vc_sound (hm : X.P.follows .mixedOrders = true) : ∀ (c : Code), okC N c = true → ∀ (K : Post) (s : Sl) (st : St) (β : Bk) (a : Act) (w : World), Inv X β st w → SRel X N β s a → vc X c K s st → c.wp X.P (conc X N K) a w := by
  intro c
  induction c with
  | skip => intro _ K s st β a w hI hS h; exact wp_skip ⟨β, s, st, hI, hS, h⟩
  | label l => intro _ K s st β a w hI hS h; exact wp_label ⟨β, s, st, hI, hS, h⟩
  | exit i => intro _ K s st β a w hI hS h; exact wp_exit ⟨β, s, st, hI, hS, h⟩
  | ret => intro _ K s st β a w hI hS h; exact wp_ret ⟨β, s, st, hI, hS, h⟩
  | region id ops draw =>
    intro hc K s st β a w hI hS h
    have hd := okD_spec (show ops.all (okD N) = true from hc)
    cases draw with
    | false =>
      refine wp_region ?_
      have h' : vcO false X ops.toList ((List.range ops.size).filterMap fun i => ops[i]?) s st (K .normal) := by
        have := range_all ops.toList
        simp only [Array.length_toList, Array.getElem?_toList] at this
        rw [this]; exact h
      exact vcO_sound hd (fun β s st a w h1 h2 h3 => ⟨β, s, st, h1, h2, h3⟩) _ _ _ _ _ _ hI hS h'
    | true =>
      refine wp_mono (vcR_sound hm hd hI hS h) fun e a w => ?_
      rintro ⟨rfl, β, s, st, h1, h2, h3⟩
      exact ⟨β, s, st, h1, h2, h3⟩
  | seq x y ihx ihy =>
    intro hc K s st β a w hI hS h
    simp only [okC, Bool.and_eq_true] at hc
    refine wp_seq (wp_mono (ihx hc.1 _ _ _ _ _ _ hI hS h) fun e a w => ?_)
    rintro ⟨β, s, st, h1, h2, h3⟩
    cases e with
    | normal => exact ihy hc.2 _ _ _ _ _ _ h1 h2 h3
    | _ => exact ⟨β, s, st, h1, h2, h3⟩
  | cond x y z ihy ihz =>
    intro hc K s st β a w hI hS h
    simp only [okC, Bool.and_eq_true] at hc
    simp only [vc] at h
    have hx := hS.eval x
    cases hv : ev s x with
    | val v =>
      rw [hv] at h hx
      cases v with
      | bool t =>
        have := inv_val hx
        simp only at h
        cases t with
        | true => exact wp_cond_true this (ihy hc.1 _ _ _ _ _ _ hI hS (by simpa using h))
        | false => exact wp_cond_false this (ihz hc.2 _ _ _ _ _ _ hI hS (by simpa using h))
      | _ => exact h.elim
    | _ => rw [hv] at h; exact h.elim
  | block id x ih =>
    intro hc K s st β a w hI hS h
    refine wp_block (wp_mono (ih hc _ _ _ _ _ _ hI hS h) fun e a w => ?_)
    rintro ⟨β, s, st, h1, h2, h3⟩
    cases e with
    | exit i =>
      simp only [blkP] at h3
      simp only [Exit.inBlock]
      by_cases hi : i = id
      · subst hi; simp only [BEq.rfl, cond_true] at h3; rw [if_pos rfl]; exact ⟨β, s, st, h1, h2, h3⟩
      · have hb : (i == id) = false := by simpa using hi
        rw [hb, cond_false] at h3; rw [if_neg hi]; exact ⟨β, s, st, h1, h2, h3⟩
    | _ => exact ⟨β, s, st, h1, h2, h3⟩
  | loop x ih =>
    intro hc K s st β a w hI hS h
    obtain ⟨I, ⟨n, s', hf, h0⟩, hr⟩ := h
    refine wp_loop_n (fun n a w => ∃ β s st, Inv X β st w ∧ SRel X N β s a ∧ I n s st) (n := n) ⟨β, s', st, hI, hS.fit hf, h0⟩ fun n a w => ?_
    rintro ⟨β, s, st, h1, h2, h3⟩
    obtain ⟨J, hJ, h3⟩ := hr n s st h3
    refine wp_mono (ih hc _ _ _ _ _ _ h1 h2 h3) fun e a w => ?_
    rintro ⟨β, s, st, h1, h2, h3⟩
    cases e with
    | normal =>
      obtain ⟨m, s3, hm, hf, h3⟩ := hJ s st h3
      exact ⟨m, hm, β, s3, st, h1, h2.fit hf, h3⟩
    | _ => exact ⟨β, s, st, h1, h2, h3⟩
  | scope x ih =>
    intro hc K s st β a w hI hS h
    refine wp_scope_straight (wp_mono (ih hc _ _ _ _ _ _ hI hS h) fun e a w => ?_)
    rintro ⟨β, s, st, h1, h2, h3⟩
    cases e with
    | goto l => exact h3.elim
    | _ => exact ⟨β, s, st, h1, h2, h3⟩
  | _ => intro _ K s st β a w hI hS h; exact h.elim

/-! ### Functions -/

def resA (X : Cx) (st : St) (s : Sl) : List ResultVar → (List AV → Prop) → Prop
  | [], K => K []
  | .tmp t :: l, K => resA X st s l fun xs => K (Sl.get s t :: xs)
  | .cell c t :: l, K => match Sl.get s c with
    | .ptr r off => match st[r]? with
      | some (some cs) => loadA X.P t cs off fun y => resA X st s l fun xs => K (y :: xs)
      | _ => False
    | _ => False
def retA (xs : List AV) : AV := match xs with
  | [x] => x
  | xs => .tup xs
def bodyK (X : Cx) (rs : List ResultVar) (K : AV → St → Prop) : Post := fun e s st => match e with
  | .normal => resA X st s rs fun xs => K (retA xs) st
  | .ret => resA X st s rs fun xs => K (retA xs) st
  | _ => False
def initS : Nat → List AV → Sl
  | _, [] => []
  | n, x :: l => (n, x) :: initS (n + 1) l

def resM (a : Act) (r : ResultVar) : Sem Value := match r with
  | .tmp t => pure (a.tmps.getD t undef)
  | .cell c t => do loadVar t (← asAddr (a.tmps.getD c undef))

theorem resA_run {β : Bk} {st : St} {w : World} {s : Sl} {a : Act} (hI : Inv X β st w) (hS : SRel X N β s a) : ∀ (rs : List ResultVar) (K : List AV → Prop), resA X st s rs K →
    ∃ vs xs, (rs.mapM (resM a)).run X.P w = .ok vs w ∧ VRels X.w0 β vs.toArray xs ∧ K xs := by
  intro rs
  induction rs with
  | nil => intro K h; exact ⟨[], [], by simp, ⟨rfl, fun j v x hv => by simp at hv⟩, h⟩
  | cons r rs ih =>
    intro K h
    have fin : ∀ v x, VRel X.w0 β v x → (resM a r).run X.P w = .ok v w → resA X st s rs (fun xs => K (x :: xs)) →
        ∃ vs xs, ((r :: rs).mapM (resM a)).run X.P w = .ok vs w ∧ VRels X.w0 β vs.toArray xs ∧ K xs := by
      intro v x hv hrun h
      obtain ⟨vs, xs, h1, h2, h3⟩ := ih _ h
      refine ⟨v :: vs, x :: xs, ?_, ?_, h3⟩
      · rw [List.mapM_cons]
        simp [hrun, h1]
      · have := VRels.append (as := #[v]) (xs := [x]) ⟨rfl, fun j u y hu hy => by
          cases j with
          | zero => simp at hu hy; subst hu hy; exact hv
          | succ j => simp at hu⟩ h2
        simpa using this
    cases r with
    | tmp t => exact fin _ _ (hS.slot t) (by simp [resM]) h
    | cell c t =>
      simp only [resA] at h
      have hc := hS.slot c
      cases hx : Sl.get s c with
      | ptr r off =>
        rw [hx] at h hc
        simp only at h
        obtain ⟨b, m, hb, hv⟩ := inv_ptr hc
        cases hst : st[r]? with
        | none => simp [hst] at h
        | some q =>
          cases q with
          | none => simp [hst] at h
          | some cs =>
            simp only [hst] at h
            obtain ⟨hg, hp⟩ := h
            have hR := (readable_obj hI hst hb).drop off
            obtain ⟨v, x, h1, h2, h3⟩ := run_load_readable hg hR (partA_drop hp)
            refine fin v x h2 ?_ h3
            have := h1 w (Below.refl _ _)
            rw [add_none, Nat.zero_add] at this
            simp [resM, hv, asAddr, this]
      | _ => rw [hx] at h; exact h.elim

theorem init_slot {w0 : World} {β : Bk} {vs : Array Value} {xs : List AV} (h : VRels w0 β vs xs) (m : Nat) (k : Nat) :
    VRel w0 β ((vs ++ Array.replicate m undef).getD k undef) (Sl.get (initS 0 xs) k) := by
  have gen : ∀ (xs : List AV) (n k : Nat), Sl.get (initS n xs) k = if n ≤ k then (xs[k - n]?).getD .junk else .junk := by
    intro xs
    induction xs with
    | nil => intro n k; simp [initS, get_nil]
    | cons x xs ih =>
      intro n k
      rw [initS, get_cons, ih]
      by_cases h1 : k = n
      · subst h1; simp
      · have hb : (k == n) = false := by simpa using h1
        rw [hb, cond_false]
        by_cases h2 : n ≤ k
        · have : k - n = (k - (n + 1)) + 1 := by omega
          rw [if_pos h2, if_pos (by omega), this, List.getElem?_cons_succ]
        · rw [if_neg h2, if_neg (by omega)]
  rw [gen, if_pos (Nat.zero_le _), Nat.sub_zero]
  cases hx : xs[k]? with
  | none => exact .junk _
  | some x =>
    have hk : k < xs.length := (List.getElem?_eq_some_iff.1 hx).1
    have hk' : k < vs.size := by rw [h.1]; exact hk
    have : (vs ++ Array.replicate m undef).getD k undef = vs[k] := by
      rw [Array.getD_eq_getD_getElem?, Array.getElem?_append_left hk']; simp [hk']
    rw [this]
    exact h.2 k _ x (by simp [hk']) hx

/-- What a function's text must pass. -/
def fnOK (P : Program) (f : FuncId) (n : Nat) : Bool := match P.funcs[f]? with
  | some fn => !(fn.name == "runtime.NumGoroutine") && decide (n ≤ fn.ntmps) && match fn.body with
    | some c => okC fn.ntmps c
    | none => false
  | none => false

/-- A contract out of a walk. -/
theorem calls_of_vc {P : Program} {f : FuncId} {fn : Func} {c : Code} {n : Nat} (hf : P.funcs[f]? = some fn) (hb : fn.body = some c) (hok : fnOK P f n = true) (hP : X.P = P) (hm : P.follows .mixedOrders = true)
    {β : Bk} {st : St} {w : World} {vs : Array Value} {xs : List AV} {K : AV → St → Prop} (hI : Inv X β st w) (hv : VRels X.w0 β vs xs) (hn : xs.length = n) (hb0 : X.β1 = β)
    (h : vc X c (bodyK X fn.results.toList K) (initS 0 xs) st) :
    Calls P f vs w (fun e w' => ∃ v x ex st', e = .returned v ∧ Inv X (β ++ ex) st' w' ∧ VRel X.w0 (β ++ ex) v x ∧ K x st') := by
  subst hP
  simp only [fnOK, hf, hb, Bool.and_eq_true, decide_eq_true_eq] at hok
  refine calls_of_wp hf hb ?_
  have hsz : vs.size = n := by rw [hv.1, hn]
  have hS : SRel X fn.ntmps β (initS 0 xs) { tmps := vs ++ Array.replicate (fn.ntmps - vs.size) undef, defers := [] } := by
    refine ⟨?_, rfl, fun k => init_slot hv _ k⟩
    have := hok.1.2
    simp; omega
  refine wp_mono (vc_sound hm c hok.2 _ _ _ _ _ _ hI hS h) fun e a w' => ?_
  rintro ⟨β', s, st', h1, h2, h3⟩
  have fin : resA X st' s fn.results.toList (fun xs => K (retA xs) st') → a.defers = [] ∧ ∃ v, (results fn a.tmps).run X.P w' = .ok v w' ∧ ∃ v' x ex st'', Ending.returned v = .returned v' ∧ Inv X (β ++ ex) st'' w' ∧ VRel X.w0 (β ++ ex) v' x ∧ K x st'' := by
    intro h3
    obtain ⟨us, ys, q1, q2, q3⟩ := resA_run h1 h2 _ _ h3
    obtain ⟨ex, hex⟩ := h1.bep
    rw [hb0] at hex
    refine ⟨h2.defers, if h : us.toArray.size = 1 then us.toArray[0] else .tuple us.toArray, ?_, _, retA ys, ex, st', rfl, hex ▸ h1, ?_, q3⟩
    · have e1 : results fn a.tmps = (do let us ← fn.results.mapM (resM a); pure (if h : us.size = 1 then us[0] else .tuple us)) := rfl
      rw [e1, Array.mapM_eq_mapM_toList, Sem.run_bind, Sem.run_map, q1]
      rfl
    · rw [← hex]
      by_cases h : us.toArray.size = 1
      · rw [dif_pos h]
        have hl : ys.length = 1 := by rw [← q2.1]; exact h
        match ys, hl with
        | [y], _ => exact q2.2 0 _ _ (by simp [h]) rfl
      · rw [dif_neg h]
        have hl : ys.length ≠ 1 := by rw [← q2.1]; exact h
        have : retA ys = .tup ys := by
          match ys, hl with
          | [], _ => rfl
          | _ :: _ :: _, _ => rfl
        rw [this]
        exact .tup q2.1 q2.2
  cases e with
  | normal => exact fin h3
  | ret => exact fin h3
  | _ => exact h3.elim

theorem fspec_of {P : Program} {f : FuncId} {fn : Func} {c : Code} (n : Nat) (rs : List ResultVar) {R : List AV → St → (AV → St → Prop) → Prop} (hf : P.funcs[f]? = some fn) (hb : fn.body = some c) (hrs : fn.results.toList = rs) (hok : fnOK P f n = true) (hm : P.follows .mixedOrders = true)
    (hn : ∀ xs st K, R xs st K → xs.length = n)
    (h : ∀ (X : Cx) xs st K, X.P = P → X.st1 = st → R xs st K → vc X c (bodyK X rs K) (initS 0 xs) st) : PSpec P f R := by
  subst hrs
  constructor
  · unfold fnOK at hok
    unfold enterOK
    simp only [hf, hb, Bool.and_eq_true] at hok ⊢
    exact ⟨rfl, hok.1.1⟩
  · intro w0 β st w vs xs K hI hv hR
    exact calls_of_vc (X := ⟨P, w0, w, st, β⟩) hf hb hok rfl hm hI hv (hn _ _ _ hR) rfl (h _ _ _ _ rfl rfl hR)

/-- The same, where the world in which all began is known. -/
theorem gspec_of {P : Program} {f : FuncId} {fn : Func} {c : Code} {G : World → Prop} (n : Nat) (rs : List ResultVar) {R : List AV → St → (AV → St → Prop) → Prop} (hf : P.funcs[f]? = some fn) (hb : fn.body = some c) (hrs : fn.results.toList = rs) (hok : fnOK P f n = true) (hm : P.follows .mixedOrders = true)
    (hn : ∀ xs st K, R xs st K → xs.length = n)
    (h : ∀ (X : Cx) xs st K, X.P = P → X.st1 = st → G X.w0 → R xs st K → vc X c (bodyK X rs K) (initS 0 xs) st) : ∀ w0, G w0 → PSpecAt P w0 f R := by
  subst hrs
  intro w0 hG
  constructor
  · unfold fnOK at hok
    unfold enterOK
    simp only [hf, hb, Bool.and_eq_true] at hok ⊢
    exact ⟨rfl, hok.1.1⟩
  · intro β st w vs xs K hI hv hR
    exact calls_of_vc (X := ⟨P, w0, w, st, β⟩) hf hb hok rfl hm hI hv (hn _ _ _ hR) rfl (h _ _ _ _ rfl rfl hG hR)

/-- A contract out of a walk, of a function that may write to what its caller may write to. -/
theorem wspec_of {P : Program} {f : FuncId} {fn : Func} {c : Code} (n : Nat) (rs : List ResultVar) {R : List AV → St → (AV → St → Prop) → Prop} (hf : P.funcs[f]? = some fn) (hb : fn.body = some c) (hrs : fn.results.toList = rs) (hok : fnOK P f n = true) (hm : P.follows .mixedOrders = true)
    (hn : ∀ xs st K, R xs st K → xs.length = n) {X : Cx} (hX : X.P = P)
    (h : ∀ (Y : Cx) xs st K, Y.P = P → Y.st1 = X.st1 → R xs st K → vc Y c (bodyK Y rs K) (initS 0 xs) st) : FSpec X f R := by
  subst hrs
  constructor
  · unfold fnOK at hok
    unfold enterOK
    simp only [hX, hf, hb, Bool.and_eq_true] at hok ⊢
    exact ⟨rfl, hok.1.1⟩
  · intro β st w vs xs K hI hv hR
    rw [hX]
    have hI' : Inv ⟨P, X.w0, X.w1, X.st1, β⟩ β st w := ⟨hI.b0, hI.b1, hI.len, hI.stp, ⟨[], by simp⟩, hI.nw, hI.ow, hI.obj, hI.inj⟩
    refine (calls_of_vc (X := ⟨P, X.w0, X.w1, X.st1, β⟩) hf hb hok rfl hm hI' hv (hn _ _ _ hR) rfl (h _ _ _ _ rfl rfl hR)).mono ?_
    rintro e w' ⟨v, x, ex, st', he, h1, h2, h3⟩
    refine ⟨v, x, ex, st', he, ⟨h1.b0, h1.b1, h1.len, h1.stp, ?_, h1.nw, h1.ow, h1.obj, h1.inj⟩, h2, h3⟩
    obtain ⟨y, hy⟩ := hI.bep
    exact ⟨y ++ ex, by rw [hy, List.append_assoc]⟩
end
end Go.Proofs.Pv
