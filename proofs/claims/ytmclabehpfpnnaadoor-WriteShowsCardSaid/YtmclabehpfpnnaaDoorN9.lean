/- A drawn region whose last operations wait for all others: these may write. -/
import Derived.Test.YtmclabehpfpnnaaDoorN6
import Derived.Test.YtmclabehpfpnnaaDoorE14
import Derived.Test.YtmclabehpfpnnaaDoorK0
import Derived.Test.YtmclabehpfpnnaaDoorP4
set_option linter.unusedSimpArgs false
set_option linter.unusedVariables false
namespace Go.Proofs.Pv
open Go Go.RowKit

section
variable {P : Program} {ops : Array Oper} {Q : Exit → Act → World → Prop} {M : Array Nat} {sf : Nat → Bool}
def wpAnyH (P : Program) (ops : Array Oper) (Q : Exit → Act → World → Prop) (sf : Nat → Bool) : Nat → Array Bool → Act → World → Prop
  | 0, listed, a, w => Region.ready .any ops listed = [] ∧ Q .normal a w
  | fuel + 1, listed, a, w =>
    (Region.ready .any ops listed = [] → Q .normal a w) ∧
    ∀ i ∈ Region.ready .any ops listed, wpOp P ops Q i (fun a' w' => (sf i = true → Below w.heap.size w w') ∧ wpAnyH P ops Q sf fuel (listed.setIfInBounds i true) a' w') a w
theorem wpAny_of_H : ∀ (fuel : Nat) (listed : Array Bool) (a : Act) (w : World), wpAnyH P ops Q sf fuel listed a w → wpAny P .any ops Q fuel listed a w
  | 0, _, _, _, h => h
  | fuel + 1, _, _, _, h => ⟨h.1, fun i hi => wpOp_mono (fun a' w' h' => wpAny_of_H fuel _ a' w' h'.2) (h.2 i hi)⟩
theorem wpAnyH_first (hM : soundM ops M = true) {i : Nat} {oi : Oper} {v : Value} (hi : ops[i]? = some oi) (hsel : ∀ (j : Nat) (o : Oper) cs b, ops[j]? = some o → o.op ≠ .select cs b)
    (hQ : ∀ c a w, Q (.panic c) (a.put oi.dst v) w → Q (.panic c) a w) :
    ∀ (fuel : Nat) (listed : Array Bool) (a : Act) (w : World), Closed ops M listed →
      (∀ j oj, ops[j]? = some oj → j ≠ i → listed.getD j true = false → Nat.testBit (M.getD j 0) i = true ∨ ((sf j = true ∨ calmO oi.op = true) ∧ oi.apart ops oj = true)) →
      i ∈ Region.ready .any ops listed → YieldsIf P ops (fun w' => calmO oi.op = true ∨ Below w.heap.size w w') oi v a →
      wpAnyH P ops Q sf fuel (listed.setIfInBounds i true) (a.put oi.dst v) w → wpAnyH P ops Q sf (fuel + 1) listed a w := by
  intro fuel
  have hil : i < ops.size := (Array.getElem?_eq_some_iff.1 hi).1
  induction fuel with
  | zero =>
    intro listed a w _ _ hr hy H
    refine ⟨fun h => (by rw [h] at hr; cases hr), fun j hj => ?_⟩
    by_cases hji : j = i
    · subst hji; exact hy.wpOp hi (.inr (Below.refl _ _)) ⟨fun _ => Below.refl _ _, H⟩
    · have := ready_mono hj hji
      rw [H.1] at this
      cases this
  | succ fuel ih =>
    intro listed a w hC hfree hr hy H
    refine ⟨fun h => (by rw [h] at hr; cases hr), fun j hj => ?_⟩
    by_cases hji : j = i
    · subst hji; exact hy.wpOp hi (.inr (Below.refl _ _)) ⟨fun _ => Below.refl _ _, H⟩
    · have h1 := H.2 j (ready_mono hj hji)
      obtain ⟨hjun, oj, hoj, hall⟩ := mem_ready.1 hj
      obtain ⟨hsoft, hap⟩ : (sf j = true ∨ calmO oi.op = true) ∧ oi.apart ops oj = true := by
        rcases hfree j oj hoj hji hjun with h | h
        · exact (not_listed hr (ready_anc hM hC hil hj h)).elim
        · exact h
      have h2 := wpOp_putIf hoj hap (fun cs b => hsel i oi cs b hi) (fun cs b => hsel j oj cs b hoj) hQ hy h1
      refine wpOp_mono (fun a' w' h3 => ⟨h3.2.1, ih (listed.setIfInBounds j true) a' w' (hC.set hM hj) (fun k ok hk hki hun => hfree k ok hk hki ?_) (ready_mono hr (Ne.symm hji)) ?_ ?_⟩) h2
      · by_cases hjk : j = k
        · subst hjk; exact hjun
        · rw [getD_set_ne true hjk] at hun; exact hun
      · refine h3.1.imp (fun ⟨q1, q2⟩ => ⟨q1, fun w'' hb' => q2 w'' ?_⟩) id
        rcases hsoft with hs | hs
        · have hb := h3.2.1 hs
          exact hb'.imp id fun hb' => hb.trans (hb'.mono hb.size)
        · exact .inl hs
      · rw [Array.setIfInBounds_comm _ _ hji]
        exact h3.2.2
end

/-- One that may be taken first, where those of H write. -/
def takeH (ops : Array Oper) (M : Array Nat) (H : List Nat) (listed : Array Bool) (i : Nat) : Bool :=
  match ops[i]? with
  | none => false
  | some oi => pureO oi.op && (Region.ready .any ops listed).contains i && (List.range ops.size).all fun j => j == i || listed.getD j true || Nat.testBit (M.getD j 0) i || match ops[j]? with
    | some oj => ((softO oj.op && !H.contains j) || calmO oi.op) && oi.apart ops oj
    | none => true
def okE (ops : Array Oper) : List Nat → Array Bool → Bool
  | [], listed => (Region.ready .any ops listed).isEmpty
  | i :: l, listed => Region.ready .any ops listed == [i] && okE ops l (listed.setIfInBounds i true)
def okH (ops : Array Oper) (M : Array Nat) (H : List Nat) (l2 : List Nat) : List Nat → Array Bool → Bool
  | [], listed => okE ops l2 listed
  | i :: l, listed => (takeH ops M H listed i || (Region.ready .any ops listed == [i] && !H.contains i)) && okH ops M H l2 l (listed.setIfInBounds i true)
section
variable {X : Cx} {N : Nat} {ops : Array Oper} {M : Array Nat} {K : Sl → St → Prop} {Q : Exit → Act → World → Prop} {H : List Nat}
theorem okH_sound (hM : soundM ops M = true) (hns : Region.noSelect ops = true) (hd : ∀ o ∈ ops.toList, ∀ t, o.dst = some t → t < N) (hQ : ∀ β s st a w, Inv X β st w → SRel X N β s a → K s st → Q .normal a w)
    (hQp : ∀ c a w, ¬ Q (.panic c) a w) (l2 : List Nat) (hl2 : ∀ i ∈ l2, i ∈ H) : ∀ (l : List Nat) (n : Nat) (listed : Array Bool) (β : Bk) (s : Sl) (st : St) (a : Act) (w : World), okH ops M H l2 l listed = true → Closed ops M listed → Inv X β st w → SRel X N β s a →
      vcO true X ops.toList (l.filterMap fun i => ops[i]?) s st (fun s st => vcO false X ops.toList (l2.filterMap fun i => ops[i]?) s st K) → l.length + l2.length ≤ n → wpAnyH X.P ops Q (fun i => softAt ops i && !H.contains i) n listed a w := by
  have tail : ∀ (l2 : List Nat) (_ : ∀ i ∈ l2, i ∈ H) (n : Nat) (listed : Array Bool) (β : Bk) (s : Sl) (st : St) (a : Act) (w : World), okE ops l2 listed = true → Closed ops M listed → Inv X β st w → SRel X N β s a →
      vcO false X ops.toList (l2.filterMap fun i => ops[i]?) s st K → l2.length ≤ n → wpAnyH X.P ops Q (fun i => softAt ops i && !H.contains i) n listed a w := by
    intro l2
    induction l2 with
    | nil =>
      intro _ n listed β s st a w hl hC hI hS h hn
      have hr : Region.ready .any ops listed = [] := by simpa [okE] using hl
      cases n with
      | zero => exact ⟨hr, hQ _ _ _ _ _ hI hS h⟩
      | succ n => exact ⟨fun _ => hQ _ _ _ _ _ hI hS h, by rw [hr]; simp⟩
    | cons i l2 ih =>
      intro hl2 n listed β s st a w hl hC hI hS h hn
      simp only [okE, Bool.and_eq_true, beq_iff_eq] at hl
      obtain ⟨h1, hl2'⟩ := hl
      have hr : i ∈ Region.ready .any ops listed := by rw [h1]; simp
      obtain ⟨_, o, ho, _⟩ := mem_ready.1 hr
      simp only [List.filterMap_cons, ho] at h
      cases n with
      | zero => simp at hn
      | succ n =>
        have hd' := hd o (by simpa using Array.mem_of_getElem? ho)
        refine ⟨fun h2 => (by rw [h2] at h1; cases h1), fun j hj => ?_⟩
        rw [h1] at hj
        obtain rfl : j = i := by simpa using hj
        have hin := hl2 j (by simp)
        exact v1_sound ho hd' hI hS h fun β' s' st' a' w' hb h1 h2 h3 => ⟨fun hs => by simp [hin] at hs, ih (fun i hi => hl2 i (by simp [hi])) n _ _ _ _ _ _ hl2' (hC.set hM hr) h1 h2 h3 (by simpa using hn)⟩
  intro l
  induction l with
  | nil =>
    intro n listed β s st a w hl hC hI hS h hn
    exact tail l2 hl2 n listed β s st a w hl hC hI hS h (by simpa using hn)
  | cons i l ih =>
    intro n listed β s st a w hl hC hI hS h hn
    simp only [okH, Bool.and_eq_true, Bool.or_eq_true, beq_iff_eq] at hl
    obtain ⟨hl1, hl2'⟩ := hl
    have key : ∀ o, ops[i]? = some o → takeH ops M H listed i = true → pureO o.op = true ∧ i ∈ Region.ready .any ops listed ∧ ∀ j oj, ops[j]? = some oj → j ≠ i → listed.getD j true = false → Nat.testBit (M.getD j 0) i = true ∨ (((softAt ops j && !H.contains j) = true ∨ calmO o.op = true) ∧ o.apart ops oj = true) := by
      intro o ho h
      simp only [takeH, ho, Bool.and_eq_true, List.all_eq_true, List.mem_range] at h
      obtain ⟨⟨h1, h2⟩, h3⟩ := h
      refine ⟨h1, by simpa using h2, fun j oj hj hji hun => ?_⟩
      have := h3 j (Array.getElem?_eq_some_iff.1 hj).1
      simp only [hun, hj, Bool.or_false, Bool.or_eq_true, beq_iff_eq, hji, false_or, Bool.and_eq_true] at this
      simp only [softAt, hj, Bool.and_eq_true]
      exact this
    have hr : i ∈ Region.ready .any ops listed := by
      rcases hl1 with h1 | h1
      · cases ho : ops[i]? with
        | none => simp [takeH, ho] at h1
        | some o => exact (key o ho h1).2.1
      · rw [h1.1]; simp
    obtain ⟨_, o, ho, _⟩ := mem_ready.1 hr
    simp only [List.filterMap_cons, ho] at h
    cases n with
    | zero => simp at hn
    | succ n =>
      have hn' : l.length + l2.length ≤ n := by simp at hn; omega
      have hd' := hd o (by simpa using Array.mem_of_getElem? ho)
      rcases hl1 with h1 | h1
      · obtain ⟨hp, _, hfree⟩ := key o ho h1
        obtain ⟨v, x, hy, hv, hk⟩ := v1_yields hp hI hS h
        exact wpAnyH_first hM ho (Region.noSelect_spec hns) (fun c a w h => absurd h (hQp _ _ _)) n listed a w hC hfree hr hy (ih n _ _ _ _ _ _ hl2' (hC.set hM hr) hI (hS.putS hd' hv) hk hn')
      · refine ⟨fun h2 => (by rw [h2] at h1; cases h1.1), fun j hj => ?_⟩
        rw [h1.1] at hj
        obtain rfl : j = i := by simpa using hj
        exact v1_sound ho hd' hI hS h fun β' s' st' a' w' hb h1 h2 h3 => ⟨fun hs => hb rfl (by simp only [Bool.and_eq_true] at hs; simpa [softAt, ho] using hs.1), ih n _ _ _ _ _ _ hl2' (hC.set hM hr) h1 h2 h3 hn'⟩
end
theorem V_hard {X : Cx} {k : List Fr} {Q : Post} {s : Sl} {st : St} {id : Nat} {l l1' l2' : List Oper} {u} (l1 l2 : List Nat)
    (h : (soundM l.toArray (ancs l.toArray) && Region.noSelect l.toArray && decide (l1.length + l2.length ≤ l.toArray.size) && okH l.toArray (ancs l.toArray) l2 l2 l1 (start l.toArray)) = true) (hp1 : Pk l l1 l1') (hp2 : Pk l l2 l2')
    (hO : ∀ F : Sl → St → Prop, (∀ s st, F s st = O false X l l2' k Q () s st) → O true X l l1' (.lp F :: k) Q () s st) : V X (.region id (List.toArray l) true) k Q u s st := by
  simp only [Bool.and_eq_true, decide_eq_true_eq] at h
  refine ⟨_, h.1.1.1, h.1.1.2, .inr (.inr (.inr (.inr (.inr fun N ds β a w hd hI hS => ?_))))⟩
  have hO' := hO (fun s st => O false X l l2' k Q () s st) fun _ _ => rfl
  refine wpAny_of_H _ _ _ _ (okH_sound (X := X.own ds) (N := N) (K := unw X k Q .normal) (M := ancs l.toArray) (H := l2) h.1.1.1 h.1.1.2 hd (fun β s st a w h1 h2 h3 => ⟨rfl, β, s, st, h1, h2, h3⟩) (fun c a w h => by cases h.1) l2 (fun i hi => hi) l1 _ _ β s st a w h.2 start_closed hI hS ?_ h.1.2)
  rw [hp1.eq, hp2.eq, vcO_own, vcO_own]
  exact hO'
end Go.Proofs.Pv

/- Data: what stays when some objects go; data made since; a list that grows; data as they must be. -/
namespace Go.Proofs.Pv
open Go Go.RowKit

/-- All objects that are there are there too. -/
def Le (st st' : St) : Prop := ∀ (i : Nat) cs, st[i]? = some (some cs) → st'[i]? = some (some cs)
section
variable {st st' st2 : St} {x a : AV} {l : List Nat}
theorem Le.refl : Le st st := fun _ _ h => h
theorem Le.trans (h : Le st st') (k : Le st' st2) : Le st st2 := fun i cs q => k i cs (h i cs q)
theorem Ext.le (h : Ext st st') : Le st st' := fun i cs q => by
  obtain ⟨y, rfl⟩ := h
  rw [List.getElem?_append_left (List.getElem?_eq_some_iff.1 q).1]; exact q
theorem Le.kill {r : Nat} : Le (st.set r none) st := fun i cs q => by
  rw [List.getElem?_set] at q
  by_cases he : r = i
  · subst he; rw [if_pos rfl] at q; split at q <;> cases q
  · rw [if_neg he] at q; exact q
theorem Le.app {B y y' : St} (h : Le y y') : Le (B ++ y) (B ++ y') := fun i cs q => by
  rcases Nat.lt_or_ge i B.length with h1 | h1
  · rw [List.getElem?_append_left h1] at q ⊢; exact q
  · rw [List.getElem?_append_right h1] at q ⊢; exact h _ _ q
theorem sl_le {sz : Nat} {p : Nat × List AV} (h : Pv.sl sz st x = some p) (e : Le st st') : Pv.sl sz st' x = some p := by
  obtain ⟨n, cs⟩ := p
  rcases sl_cases h with ⟨rfl, hl⟩ | ⟨r, off, c, rfl, hc, hd, hl⟩ | ⟨rfl, rfl, rfl⟩
  · exact h
  · have := e _ _ hc
    unfold sl at h ⊢
    simp only [hc, this] at h ⊢
    exact h
  · exact h
theorem Nm.le (h : Nm st x l) (e : Le st st') : Nm st' x l := ⟨sl_le h.sl e, h.lt⟩
mutual
theorem DC.le (e : Le st st') {c : List AV} {d : Dt} : DC st c d → DC st' c d
  | .mk ha hx hy => .mk (ha.le e) (hx.le e) (hy.le e)
theorem DS.le (e : Le st st') {x : AV} {ds : List Dt} : DS st x ds → DS st' x ds
  | .mk hs hd => .mk (sl_le hs e) (hd.le e)
theorem DL.le (e : Le st st') {cs : List AV} {ds : List Dt} : DL st cs ds → DL st' cs ds
  | .nil => .nil
  | .cons hc hd => .cons (hc.le e) (hd.le e)
end
theorem DA.le {d : Dt} (h : DA st x d) (e : Le st st') : DA st' x d := by obtain ⟨c, h1, h2⟩ := h; exact ⟨c, h1, h2.le e⟩
end

/-- A datum made since. -/
def New (st T : St) (x : AV) (d : Dt) : Prop := ∃ y, T = st ++ y ∧ ∀ B : St, B.length = st.length → DA (B ++ y) x d
section
variable {st T T2 : St} {x : AV} {d : Dt}
theorem New.da (h : New st T x d) : DA T x d := by obtain ⟨y, rfl, h⟩ := h; exact h st rfl
theorem New.ex (h : New st T x d) : Ext st T := by obtain ⟨y, rfl, h⟩ := h; exact ⟨y, rfl⟩
theorem New.ext (h : New st T x d) (e : Ext T T2) : New st T2 x d := by
  obtain ⟨y, rfl, h⟩ := h
  obtain ⟨z, rfl⟩ := e
  exact ⟨y ++ z, by simp, fun B hB => by rw [← List.append_assoc]; exact (h B hB).ext (.add _)⟩
theorem New.pre (e : Ext st T) (h : New T T2 x d) : New st T2 x d := by
  obtain ⟨z, rfl⟩ := e
  obtain ⟨y, rfl, h⟩ := h
  exact ⟨z ++ y, by simp, fun B hB => by rw [← List.append_assoc]; exact h _ (by simp [hB])⟩
end

/-- The objects since n0 without the row that grows. -/
def mask (o : AV) (n0 : Nat) (T : St) : St := match o with
  | .own r _ _ _ => (T.drop n0).set (r - n0) none
  | _ => T.drop n0
/-- So, whatever there was before. -/
def Fine (n0 : Nat) (T : St) (o : AV) (P : St → Prop) : Prop := ∀ B : St, B.length = n0 → P (B ++ mask o n0 T)
def Mono (P : St → Prop) : Prop := ∀ S S', Le S S' → P S → P S'
theorem mono_DL {cs : List AV} {ds : List Dt} : Mono fun S => DL S cs ds := fun _ _ h k => k.le h
theorem mono_DA {x : AV} {d : Dt} : Mono fun S => DA S x d := fun _ _ h k => k.le h
theorem Fine.to {n0 : Nat} {T T' : St} {o o' : AV} {P : St → Prop} (hP : Mono P) (h : Fine n0 T o P) (hl : Le (mask o n0 T) (mask o' n0 T')) : Fine n0 T' o' P := fun B hB => hP _ _ hl.app (h B hB)
/-- A list of data made since, that grows. -/
structure Acc (n0 : Nat) (T : St) (o : AV) (ds : List Dt) : Prop where
  len : n0 ≤ T.length
  row : (o = .val (.slice none 0 0) ∧ ds = []) ∨ ∃ r cs rest, o = .own r 0 ds.length 7 ∧ n0 ≤ r ∧ T[r]? = some (some (cs ++ rest)) ∧ cs.length = ds.length * 7 ∧ Fine n0 T o fun S => DL S cs ds
section
variable {n0 : Nat} {T : St} {o x : AV} {ds : List Dt} {d : Dt}
theorem drop_set_lt {r : Nat} {y : Option (List AV)} (h : r < n0) : (T.set r y).drop n0 = T.drop n0 := by
  rw [List.drop_set, if_pos h]
theorem mask_app (hl : n0 ≤ T.length) (ho : ∀ r f n s, o = .own r f n s → n0 ≤ r ∧ r < T.length) (z : St) : mask o n0 (T ++ z) = mask o n0 T ++ z := by
  unfold mask
  split
  · rename_i r f n s
    obtain ⟨h1, h2⟩ := ho r f n s rfl
    rw [List.drop_append_of_le_length hl, List.set_append_left _ _ (by rw [List.length_drop]; omega)]
  · rw [List.drop_append_of_le_length hl]
theorem Acc.own (h : Acc n0 T o ds) : ∀ r f n s, o = .own r f n s → n0 ≤ r ∧ r < T.length := by
  rintro r f n s rfl
  rcases h.row with ⟨h1, _⟩ | ⟨r', cs, rest, h1, h2, h3, _⟩
  · cases h1
  · cases h1; exact ⟨h2, (List.getElem?_eq_some_iff.1 h3).1⟩
theorem Fine.ext {P : St → Prop} (hP : Mono P) (h : Fine n0 T o P) (hA : Acc n0 T o ds) (z : St) : Fine n0 (T ++ z) o P :=
  h.to hP (by rw [mask_app hA.len hA.own]; exact Ext.le (.add _))
theorem Acc.ext (h : Acc n0 T o ds) (z : St) : Acc n0 (T ++ z) o ds := by
  refine ⟨by simp; have := h.len; omega, ?_⟩
  rcases h.row with h1 | ⟨r, cs, rest, h1, h2, h3, h4, h5⟩
  · exact .inl h1
  · exact .inr ⟨r, cs, rest, h1, h2, by rw [List.getElem?_append_left (List.getElem?_eq_some_iff.1 h3).1]; exact h3, h4, h5.ext mono_DL h z⟩
/-- Something before n0 turns. -/
theorem Acc.low (h : Acc n0 T o ds) {i : Nat} {y : Option (List AV)} (hi : i < n0) : Acc n0 (T.set i y) o ds ∧ ∀ P, Fine n0 (T.set i y) o P = Fine n0 T o P := by
  have hm : mask o n0 (T.set i y) = mask o n0 T := by
    unfold mask
    split <;> rw [drop_set_lt hi]
  have hF : ∀ P, Fine n0 (T.set i y) o P = Fine n0 T o P := fun P => by unfold Fine; rw [hm]
  refine ⟨⟨by simp; exact h.len, ?_⟩, hF⟩
  rcases h.row with h1 | ⟨r, cs, rest, h1, h2, h3, h4, h5⟩
  · exact .inl h1
  · exact .inr ⟨r, cs, rest, h1, h2, by rw [List.getElem?_set_ne (by omega)]; exact h3, h4, by rw [hF]; exact h5⟩
theorem Fine.da {P : St → Prop} (hP : Mono P) (h : Fine n0 T o P) (hl : n0 ≤ T.length) : P T := by
  have h1 := h (T.take n0) (by rw [List.length_take]; omega)
  refine hP _ _ ?_ h1
  conv => rhs; rw [← List.take_append_drop n0 T]
  refine Le.app ?_
  unfold mask
  split
  · exact Le.kill
  · exact Le.refl
theorem Acc.dS (h : Acc n0 T o ds) : DS T o ds := by
  rcases h.row with ⟨rfl, rfl⟩ | ⟨r, cs, rest, rfl, h2, h3, h4, h5⟩
  · exact DS.nil
  · have h6 := h5.da mono_DL h.len
    refine .mk (cs := cs) ?_ h6
    rw [sl_own_eq, if_pos rfl, h3]
    simp [← h4]
theorem Fine.all {P : St → Prop} (hP : Mono P) (h : Fine n0 T o P) : Fine n0 T (.val (.slice none 0 0)) P := h.to hP (by
  unfold mask
  simp only
  split
  · exact Le.kill
  · exact Le.refl)
theorem Fine.extN {P : St → Prop} (hP : Mono P) (h : Fine n0 T (.val (.slice none 0 0)) P) (hl : n0 ≤ T.length) (z : St) : Fine n0 (T ++ z) (.val (.slice none 0 0)) P := h.to hP (by
  unfold mask
  simp only
  rw [List.drop_append_of_le_length hl]
  exact Ext.le (.add _))
theorem get_low {B : St} {r : Nat} (hB : B.length = n0) (h : n0 ≤ r) : (B ++ T.drop n0)[r]? = T[r]? := by
  rw [List.getElem?_append_right (by omega), hB, List.getElem?_drop]
  congr 1
  omega
theorem Acc.fineDS (h : Acc n0 T o ds) : Fine n0 T (.val (.slice none 0 0)) fun S => DS S o ds := by
  rcases h.row with ⟨rfl, rfl⟩ | ⟨r, cs, rest, rfl, h2, h3, h4, h5⟩
  · exact fun B hB => DS.nil
  · have h6 := h5.all mono_DL
    intro B hB
    refine .mk (cs := cs) ?_ (h6 B hB)
    have h7 : (B ++ mask (.val (.slice none 0 0)) n0 T)[r]? = some (some (cs ++ rest)) := (get_low hB h2).trans h3
    rw [sl_own_eq, if_pos rfl, h7]
    simp [← h4]
theorem maskT_get (ho : ∀ r f n s, o = .own r f n s → n0 ≤ r) {j : Nat} {c : List AV} : (mask o n0 T)[j]? = some (some c) ↔ T[n0 + j]? = some (some c) ∧ ∀ r f n s, o = .own r f n s → n0 + j ≠ r := by
  unfold mask
  split
  · rename_i r f n s
    have := ho r f n s rfl
    rw [List.getElem?_set]
    by_cases he : r - n0 = j
    · rw [if_pos he]
      constructor
      · intro h; split at h <;> cases h
      · rintro ⟨_, h⟩; exact absurd (by omega) (h r f n s rfl)
    · rw [if_neg he, List.getElem?_drop]
      refine ⟨fun h => ⟨h, ?_⟩, fun h => h.1⟩
      intro r' f' n' s' e
      cases e
      omega
  · rename_i hne
    rw [List.getElem?_drop]
    exact ⟨fun h => ⟨h, fun r f n s e => absurd e (hne r f n s)⟩, fun h => h.1⟩
/-- Where all that was there is there. -/
theorem Fine.move {T' : St} {o' : AV} {P : St → Prop} (hP : Mono P) (h : Fine n0 T o P) (ho : ∀ r f n s, o = .own r f n s → n0 ≤ r) (ho' : ∀ r f n s, o' = .own r f n s → n0 ≤ r)
    (hm : ∀ i c, n0 ≤ i → T[i]? = some (some c) → (∀ r f n s, o = .own r f n s → i ≠ r) → T'[i]? = some (some c) ∧ ∀ r f n s, o' = .own r f n s → i ≠ r) : Fine n0 T' o' P :=
  h.to hP fun j c q => by
    rw [maskT_get ho] at q
    rw [maskT_get ho']
    exact hm _ _ (by omega) q.1 q.2
theorem Acc.cells (h : Acc n0 T o ds) : ∃ cs, Pv.sl 7 T o = some (ds.length, cs) ∧ (Fine n0 T o fun S => DL S cs ds) ∧ cs.length = ds.length * 7 := by
  rcases h.row with ⟨rfl, rfl⟩ | ⟨r, cs, rest, rfl, h2, h3, h4, h5⟩
  · exact ⟨[], rfl, fun B hB => .nil, rfl⟩
  · refine ⟨cs, ?_, h5, h4⟩
    rw [sl_own_eq, if_pos rfl, h3]
    simp [← h4]
theorem none_le {n : Nat} {B : St} (hB : B.length = n) (y : St) : Le (List.replicate n none ++ y) (B ++ y) := fun i cs q => by
  rcases Nat.lt_or_ge i n with h1 | h1
  · rw [List.getElem?_append_left (by simpa using h1)] at q; simp [h1] at q
  · rw [List.getElem?_append_right (by simpa using h1)] at q
    rw [List.getElem?_append_right (by omega), hB]
    simpa using q
theorem Fine.cells {y : AV} {its : List Dt} (h : Fine n0 T o fun S => DS S y its) (hl : n0 ≤ T.length) : ∃ cs, Pv.sl 7 T y = some (its.length, cs) ∧ (Fine n0 T o fun S => DL S cs its) ∧ cs.length = its.length * 7 := by
  obtain ⟨cs, h1, _, h3⟩ := (h (List.replicate n0 none) (by simp)).inv
  have key : ∀ B : St, B.length = n0 → Pv.sl 7 (B ++ mask o n0 T) y = some (its.length, cs) := fun B hB => sl_le h1 (none_le hB _)
  refine ⟨cs, ?_, fun B hB => ?_, h3⟩
  · refine sl_le (key (T.take n0) (by rw [List.length_take]; omega)) ?_
    conv => rhs; rw [← List.take_append_drop n0 T]
    refine Le.app ?_
    unfold mask
    split
    · exact Le.kill
    · exact Le.refl
  · obtain ⟨cs', h4, h5, _⟩ := (h B hB).inv
    rw [key B hB] at h4
    cases h4
    exact h5
theorem mono_DS {x : AV} {ds : List Dt} : Mono fun S => DS S x ds := fun _ _ h k => k.le h
/-- What has been told since, seen with the list. -/
theorem New.fine (h : Acc n0 T o ds) {T2 : St} (hN : New T T2 x d) : Fine n0 T2 o fun S => DA S x d := by
  obtain ⟨y, rfl, hN⟩ := hN
  intro B hB
  rw [mask_app h.len h.own, ← List.append_assoc]
  refine hN _ ?_
  have := h.len
  unfold mask
  split <;> simp [hB] <;> omega
end

theorem New.of_fine {st T : St} {x : AV} {d : Dt} {n1 : Nat} (h1 : T.take st.length = st) (h2 : st.length ≤ n1) (h3 : n1 ≤ T.length) (h : Fine n1 T (.val (.slice none 0 0)) fun S => DA S x d) : New st T x d := by
  refine ⟨T.drop st.length, by conv => lhs; rw [← List.take_append_drop st.length T, h1], fun B hB => ?_⟩
  have h4 := h (B ++ (T.drop st.length).take (n1 - st.length)) (by simp [hB]; omega)
  have h5 : T.drop st.length = (T.drop st.length).take (n1 - st.length) ++ T.drop n1 := by
    conv => lhs; rw [← List.take_append_drop (n1 - st.length) (T.drop st.length)]
    rw [List.drop_drop]
    congr 2
    omega
  rw [h5, ← List.append_assoc]
  exact h4
theorem Got.fine {S T : St} {a : AV} {v : Nat} (h : Got S T a v) : Fine S.length T (.val (.slice none 0 0)) fun B => Nm B a (limbs v) := by
  obtain ⟨y, i, rest, rfl, rfl, hy, hr⟩ := h
  intro B hB
  unfold mask
  simp only [List.drop_left]
  refine Nm.own (rest := rest) ?_ (limbs_lt v)
  rw [← hB, get_app]
  exact hy
/-! ### Data as they must be -/
/-- Items, and what stands behind them. -/
def jn (l : List Dt) (t : Dt) : Dt := if l.length = 0 then t else if t.kd = 5 then .mk 5 false [] false ⟨#[]⟩ (l ++ t.its) t.tls else .mk 5 false [] false ⟨#[]⟩ l [t]
mutual
def nrm : Dt → Dt
  | .mk k g l b s its tls => if k = 1 then dNum (iv g (val l)) else if k = 2 then .mk 2 false [] b ⟨#[]⟩ [] [] else if k = 3 ∨ k = 4 then .mk k false [] false s [] [] else if k = 5 then
      match nrms tls with
      | [] => .mk 5 false [] false ⟨#[]⟩ (nrms its) []
      | t :: _ => jn (nrms its) t
    else .mk k false [] false ⟨#[]⟩ [] []
def nrms : List Dt → List Dt
  | [] => []
  | d :: ds => nrm d :: nrms ds
end
theorem nrms_map : ∀ l : List Dt, nrms l = l.map nrm
  | [] => rfl
  | d :: ds => by simp [nrms, nrms_map ds]
theorem nrm_mk {k : Int} {g : Bool} {l : List Nat} {b : Bool} {s : ByteArray} {its tls : List Dt} : nrm (.mk k g l b s its tls) = if k = 1 then dNum (iv g (val l)) else if k = 2 then .mk 2 false [] b ⟨#[]⟩ [] [] else if k = 3 ∨ k = 4 then .mk k false [] false s [] [] else if k = 5 then
      match tls with
      | [] => .mk 5 false [] false ⟨#[]⟩ (its.map nrm) []
      | t :: _ => jn (its.map nrm) (nrm t)
    else .mk k false [] false ⟨#[]⟩ [] [] := by
  rw [nrm, nrms_map, nrms_map]
  cases tls <;> rfl
end Go.Proofs.Pv

/- datum.joined: items, and what stands behind them. -/
namespace Go.Proofs.Pv
open Go Go.RowKit Go.Proofs
set_option maxRecDepth 20000

theorem zrA1 : zrow 1 zeroD = [.val (.int .i64 0), .val (.bool false), .val (.slice none 0 0), .val (.bool false), .val (.string ⟨#[]⟩), .val (.slice none 0 0), .val (.slice none 0 0)] := rfl
abbrev nilV : AV := .val (.slice none 0 0)
/-- Data appended to a list of data that grows. -/
theorem F_appD {X : Cx} {k : List Fr} {Q : Post} {s : Sl} {d : Bool} {full rest : List Oper} {dst : Option Nat} {u} {e by_ e2 sz2 by2 : Nat} {ez z ez2 z2 : List Value} {n0 : Nat} {T : St} {o y : AV} {ds : List Dt} {m : Nat} {ys : List AV}
    (h : Acc n0 T o ds) (hX : X.st1.length ≤ n0) (hy : slc T y = some (m, ys)) (hm : ys.length = m * 7) (hl : ys.all leaf = true) (hb : (ds.length + m) * by_ ≤ 140737488355328) (hb2 : ds.length + m ≤ 9223372036854775807)
    (hk : ∀ q T' cs, T.length ≤ q → q < T'.length → T'.take n0 = T.take n0 → Pv.sl 7 T o = some (ds.length, cs) → T'[q]? = some (some (cs ++ ys)) → cs.length = ds.length * 7 → (∀ i c, T[i]? = some (some c) → (∀ r f n s, o = .own r f n s → i ≠ r) → T'[i]? = some (some c)) →
      O d X full rest k Q () (putS dst (.own q 0 (ds.length + m) 7) s) T') :
    F d X dst full rest k Q u s T (.append (.slice e 7 by_ ez z) (.slice e2 sz2 by2 ez2 z2) o y) := by
  have hn := h.len
  have fin : ∀ (T0 : St) (cs : List AV), T0.length = T.length → T0.take n0 = T.take n0 → cs.length = ds.length * 7 → (∀ i c, T[i]? = some (some c) → (∀ r f n s, o = .own r f n s → i ≠ r) → T0[i]? = some (some c)) → Pv.sl 7 T o = some (ds.length, cs) →
      O d X full rest k Q () (putS dst (.own T0.length 0 (ds.length + m) 7) s) (T0 ++ [some (cs ++ ys)]) := by
    intro T0 cs h1 h2 h4 h5 h6
    refine hk T0.length (T0 ++ [some (cs ++ ys)]) cs (by omega) (by simp) ?_ h6 (by rw [get_app0]; rfl) h4 (fun i c hi hne => ?_)
    · rw [List.take_append_of_le_length (by omega)]; exact h2
    · have := h5 i c hi hne
      rw [List.getElem?_append_left (List.getElem?_eq_some_iff.1 this).1]; exact this
  rcases h.row with ⟨rfl, rfl⟩ | ⟨r, cs, rr, rfl, h2, h3, h4, h5⟩
  · have := @f_app_nil X k Q s T d full rest dst u e 7 by_ e2 sz2 by2 ez z ez2 z2 y
    rw [this, hy]
    have hf := fin T [] rfl rfl rfl (fun i c hi _ => hi) rfl
    simp only [List.length_nil, Nat.zero_add, List.nil_append] at hf hb hb2
    exact ⟨hm, hl, hb, hb2, hf⟩
  · have := @f_app_own X k Q s T d full rest dst u e 7 by_ e2 sz2 by2 ez z ez2 z2 r ds.length 7 y
    rw [this, hy]
    refine ⟨hm, hl, rfl, Nat.le_trans hX h2, ?_⟩
    rw [h3]
    have hr : r < T.length := (List.getElem?_eq_some_iff.1 h3).1
    refine ⟨by simp [h4], hb, hb2, ?_⟩
    have e1 : List.take (ds.length * 7) (cs ++ rr) = cs := by rw [← h4]; exact List.take_left
    have hf := fin (T.set r none) cs (by simp) (by rw [List.take_set_of_le h2]) h4 (fun i c hi hne => by rw [List.getElem?_set_ne (fun e => hne r 0 ds.length 7 rfl e.symm)]; exact hi) (by rw [sl_own_eq, if_pos rfl, h3]; simp [← h4])
    rw [e1]
    simpa using hf

def RVals (xs : List AV) (st : St) (K : AV → St → Prop) : Prop := ∃ x, xs = [x] ∧ leaf x = true ∧ K (.fn (.func 135) [] [.ptr st.length 0]) (st ++ [some [x]])
theorem s_Values : PSpec Tryd.prog 122 RVals := by
  refine fspec_of (fn := Tryd.f122) 1 [.tmp 2] (by kernel_rfl) rfl rfl (by kernel_rfl) mixed (by rintro _ _ _ ⟨x, rfl, _⟩; rfl) ?_
  rintro X _ st K hP hst ⟨x, rfl, hx, hK⟩
  refine vc_V ?_
  simp (disch:=first|assumption|omega|(simp only [lens];omega)) only [eqs,↓gvd_succ,↓gvd_zero,↓and_of,im_of,im_of trivial,vlt,hP,hst,initS,Nat.reduceBEq,Nat.reduceAdd,Nat.reduceMul,Nat.reduceSub,Nat.reduceDiv,Nat.reduceMod,Nat.reducePow,Nat.reduceLT,Nat.reduceLeDiff,Nat.reduceEqDiff,Int.reduceAdd,Int.reduceSub,Int.reduceNeg,Int.reduceMul,Int.reduceToNat,Int.reducePow,Int.reduceLE,Int.reduceLT,Int.reduceEq,Int.reduceNe,reduceIte,reduceCtorEq,ne_eq,not_true_eq_false,not_false_eq_true,imp_self,implies_true,bls,eq_self,hx]
  exact hK

def RJoin (L : Nat) (xs : List AV) (st : St) (K : AV → St → Prop) : Prop := ∃ n0 o x ds d, xs = [o, x] ∧ Acc n0 st o ds ∧ L ≤ n0 ∧ Fine n0 st o (fun S => DA S x d) ∧ ds.length + d.its.length ≤ 1000000 ∧
  ∀ x' T, T.take n0 = st.take n0 → n0 ≤ T.length → Fine n0 T nilV (fun S => DA S x' (jn ds d)) → K x' T
theorem s_joined {X : Cx} (hX0 : X.P = Tryd.prog) : FSpec X 123 (RJoin X.st1.length) := by
  refine wspec_of (fn := Tryd.f123) 2 [.cell 4 27] (by kernel_rfl) rfl rfl (by kernel_rfl) mixed (by rintro _ _ _ ⟨_, _, _, _, _, rfl, _⟩; rfl) hX0 ?_
  rintro Y _ st K hP hst ⟨n0, o, x, ds, d, rfl, hA, hL, hFi, hb, hK⟩
  have hd := hFi.da mono_DA hA.len
  obtain ⟨k, g, a, l, b, s, y, z, its, tls, rfl, rfl, ha, hy, hz⟩ := hd.inv
  have la := ha.leaf
  have ly := hy.leaf
  have lz := hz.leaf
  have hn := hA.len
  have hX : Y.st1.length ≤ n0 := by rw [hst]; exact hL
  have hX2 : Y.st1.length ≤ st.length + 1 := by omega
  obtain ⟨cs, hsl, hdl, hcl⟩ := hA.cells
  have lo := hA.dS.leaf
  refine vc_V ?_
  have hslg := fun y => sl_grow hsl y
  simp (disch:=first|assumption|omega|(simp only [lens];omega)) only [eqs,↓gvd_succ,↓gvd_zero,↓and_of,im_of,im_of trivial,vlt,hP,hst,initS,Nat.reduceBEq,Nat.reduceAdd,Nat.reduceMul,Nat.reduceSub,Nat.reduceDiv,Nat.reduceMod,Nat.reducePow,Nat.reduceLT,Nat.reduceLeDiff,Nat.reduceEqDiff,Int.reduceAdd,Int.reduceSub,Int.reduceNeg,Int.reduceMul,Int.reduceToNat,Int.reducePow,Int.reduceLE,Int.reduceLT,Int.reduceEq,Int.reduceNe,reduceIte,reduceCtorEq,ne_eq,not_true_eq_false,not_false_eq_true,imp_self,implies_true,bls,eq_self,la,ly,lz,zD_map,hX2,hslg]
  refine C_dec (fun h0 => ?_) (fun h0 => ?_)
  · have h0 : ds.length = 0 := by omega
    simp (disch:=first|assumption|omega|(simp only [lens];omega)) only [eqs,↓gvd_succ,↓gvd_zero,↓and_of,im_of,im_of trivial,vlt,hP,hst,initS,Nat.reduceBEq,Nat.reduceAdd,Nat.reduceMul,Nat.reduceSub,Nat.reduceDiv,Nat.reduceMod,Nat.reducePow,Nat.reduceLT,Nat.reduceLeDiff,Nat.reduceEqDiff,Int.reduceAdd,Int.reduceSub,Int.reduceNeg,Int.reduceMul,Int.reduceToNat,Int.reducePow,Int.reduceLE,Int.reduceLT,Int.reduceEq,Int.reduceNe,reduceIte,reduceCtorEq,ne_eq,not_true_eq_false,not_false_eq_true,imp_self,implies_true,bls,eq_self,la,ly,lz,hX2]
    refine hK _ _ (by rw [List.take_append_of_le_length hn]) (by simp; omega) ?_
    unfold jn
    rw [if_pos h0]
    exact (hFi.all mono_DA).extN mono_DA hn _
  have h0 : ds.length ≠ 0 := by omega
  simp (disch:=first|assumption|omega|(simp only [lens];omega)) only [eqs,↓gvd_succ,↓gvd_zero,↓and_of,im_of,im_of trivial,vlt,hP,hst,initS,Nat.reduceBEq,Nat.reduceAdd,Nat.reduceMul,Nat.reduceSub,Nat.reduceDiv,Nat.reduceMod,Nat.reducePow,Nat.reduceLT,Nat.reduceLeDiff,Nat.reduceEqDiff,Int.reduceAdd,Int.reduceSub,Int.reduceNeg,Int.reduceMul,Int.reduceToNat,Int.reducePow,Int.reduceLE,Int.reduceLT,Int.reduceEq,Int.reduceNe,reduceIte,reduceCtorEq,ne_eq,not_true_eq_false,not_false_eq_true,imp_self,implies_true,bls,eq_self,la,ly,lz,hX2]
  refine C_dec (fun h5 => ?_) (fun h5 => ?_)
  · subst h5
    simp (disch:=first|assumption|omega|(simp only [lens];omega)) only [eqs,↓gvd_succ,↓gvd_zero,↓and_of,im_of,im_of trivial,vlt,hP,hst,initS,Nat.reduceBEq,Nat.reduceAdd,Nat.reduceMul,Nat.reduceSub,Nat.reduceDiv,Nat.reduceMod,Nat.reducePow,Nat.reduceLT,Nat.reduceLeDiff,Nat.reduceEqDiff,Int.reduceAdd,Int.reduceSub,Int.reduceNeg,Int.reduceMul,Int.reduceToNat,Int.reducePow,Int.reduceLE,Int.reduceLT,Int.reduceEq,Int.reduceNe,reduceIte,reduceCtorEq,ne_eq,not_true_eq_false,not_false_eq_true,imp_self,implies_true,bls,eq_self]
    refine V_ordersF (Tn.seq [(0, false), (1, false), (2, false)] (.alt 3 (Tn.seq [(4, false), (5, false), (6, false), (7, true)] .fin) (.alt 4 (Tn.seq [] (.alt 3 (Tn.seq [(5, false), (6, false), (7, true)] .fin) (.alt 5 (Tn.seq [(3, true), (6, false), (7, true)] .fin) .fin))) .fin))) (by kernel_rfl) fun F hF => ?_
    have hFy : Fine n0 st o fun S => DS S y its := fun B hB => by
      obtain ⟨c, hc, hdc⟩ := hFi B hB
      cases hc
      cases hdc with
      | mk k1 k2 k3 => exact k2
    have hFz : Fine n0 st o fun S => DS S z tls := fun B hB => by
      obtain ⟨c, hc, hdc⟩ := hFi B hB
      cases hc
      cases hdc with
      | mk k1 k2 k3 => exact k3
    obtain ⟨cs2, hsl2, hdl2, hcl2⟩ := hFy.cells hn
    have hall2 := (hdl2.da mono_DL hn).all
    have hb1 : ds.length + its.length ≤ 1000000 := hb
    have key : ∀ (s0 : Sl) (T0 : St) (q : Nat), Sl.get s0 4 = .ptr (st.length + 1) 0 → T0[st.length + 1]? = some (some [.val (.int .i64 5), .val (.bool false), .val (.slice none 0 0), .val (.bool false), .val (.string ⟨#[]⟩), .own q 0 (ds.length + its.length) 7, z]) →
        T0.take n0 = st.take n0 → n0 ≤ T0.length → (∃ cs', n0 ≤ q ∧ T0[q]? = some (some (cs' ++ cs2)) ∧ cs'.length = ds.length * 7 ∧ Fine n0 T0 nilV (fun S => DL S cs' ds) ∧ (Fine n0 T0 nilV fun S => DL S cs2 its) ∧ Fine n0 T0 nilV fun S => DS S z tls) → F s0 T0 := by
      rintro s0 T0 q g4 gT h1 h2 ⟨cs', h3, h4, h5, h6, h7, h8⟩
      rw [hF]
      simp (disch:=first|assumption|omega|(simp only [lens];omega)) only [eqs,↓gvd_succ,↓gvd_zero,↓and_of,im_of,im_of trivial,vlt,hP,hst,initS,Nat.reduceBEq,Nat.reduceAdd,Nat.reduceMul,Nat.reduceSub,Nat.reduceDiv,Nat.reduceMod,Nat.reducePow,Nat.reduceLT,Nat.reduceLeDiff,Nat.reduceEqDiff,Int.reduceAdd,Int.reduceSub,Int.reduceNeg,Int.reduceMul,Int.reduceToNat,Int.reducePow,Int.reduceLE,Int.reduceLT,Int.reduceEq,Int.reduceNe,reduceIte,reduceCtorEq,ne_eq,not_true_eq_false,not_false_eq_true,imp_self,implies_true,bls,eq_self,g4,gT,lz]
      refine hK _ _ h1 h2 ?_
      unfold jn
      rw [if_neg h0, if_pos (show (Dt.mk 5 g l b s its tls).kd = 5 from rfl)]
      intro B hB
      refine DA.mk' Nm.nil ?_ (h8 B hB)
      have := DS.own (T := B ++ mask nilV n0 T0) (ds := ds ++ its) ⟨(get_low hB h3).trans h4⟩ ((h6 B hB).app (h7 B hB))
      rwa [List.length_append] at this
    have fin : ∀ (q : Nat) (T' : St), st.length + 2 ≤ q → q < T'.length → T'.take n0 = st.take n0 → T'[q]? = some (some (cs ++ cs2)) → (∀ i c, n0 ≤ i → st[i]? = some (some c) → (∀ r f n s, o = .own r f n s → i ≠ r) → T'[i]? = some (some c)) → ∀ s0, Sl.get s0 4 = .ptr (st.length + 1) 0 →
        F s0 (T'.set (st.length + 1) (some [.val (.int .i64 5), .val (.bool false), .val (.slice none 0 0), .val (.bool false), .val (.string ⟨#[]⟩), .own q 0 (ds.length + its.length) 7, z])) := by
      intro q T' h1 h2 h3 h4 h6 s0 g4
      have mv : ∀ P, Mono P → Fine n0 st o P → Fine n0 (T'.set (st.length + 1) (some [.val (.int .i64 5), .val (.bool false), .val (.slice none 0 0), .val (.bool false), .val (.string ⟨#[]⟩), .own q 0 (ds.length + its.length) 7, z])) nilV P := fun P hP hFP => hFP.move hP (fun r f n s e => (hA.own r f n s e).1) (fun r f n s e => by cases e) fun i c hi hc hne => by
        refine ⟨?_, fun r f n s e => by cases e⟩
        have := (List.getElem?_eq_some_iff.1 hc).1
        rw [List.getElem?_set_ne (by omega)]
        exact h6 i c hi hc hne
      refine key _ _ q g4 (by rw [List.getElem?_set_self (by omega)]) (by rw [List.take_set_of_le (by omega)]; exact h3) (by simp; omega) ⟨cs, by omega, by rw [List.getElem?_set_ne (by omega)]; exact h4, hcl, mv _ mono_DL hdl, mv _ mono_DL hdl2, mv _ mono_DS hFz⟩
    rw [RN_seq rfl (.cons rfl <| .cons rfl <| .cons rfl <| .nil)]
    simp (disch:=first|assumption|omega|(simp only [lens];omega)) only [eqs,↓gvd_succ,↓gvd_zero,↓and_of,im_of,im_of trivial,vlt,hP,hst,initS,Nat.reduceBEq,Nat.reduceAdd,Nat.reduceMul,Nat.reduceSub,Nat.reduceDiv,Nat.reduceMod,Nat.reducePow,Nat.reduceLT,Nat.reduceLeDiff,Nat.reduceEqDiff,Int.reduceAdd,Int.reduceSub,Int.reduceNeg,Int.reduceMul,Int.reduceToNat,Int.reducePow,Int.reduceLE,Int.reduceLT,Int.reduceEq,Int.reduceNe,reduceIte,reduceCtorEq,ne_eq,not_true_eq_false,not_false_eq_true,imp_self,implies_true,bls,eq_self,la,ly,lz,lo]
    refine RN_alt rfl (.cons rfl <| .cons rfl <| .cons rfl <| .cons rfl <| .cons rfl <| .nil) ?_ ?_
    · simp (disch:=first|assumption|omega|(simp only [lens];omega)) only [eqs,↓gvd_succ,↓gvd_zero,↓and_of,im_of,im_of trivial,vlt,hP,hst,initS,Nat.reduceBEq,Nat.reduceAdd,Nat.reduceMul,Nat.reduceSub,Nat.reduceDiv,Nat.reduceMod,Nat.reducePow,Nat.reduceLT,Nat.reduceLeDiff,Nat.reduceEqDiff,Int.reduceAdd,Int.reduceSub,Int.reduceNeg,Int.reduceMul,Int.reduceToNat,Int.reducePow,Int.reduceLE,Int.reduceLT,Int.reduceEq,Int.reduceNe,reduceIte,reduceCtorEq,ne_eq,not_true_eq_false,not_false_eq_true,imp_self,implies_true,bls,eq_self,la,ly,lz,lo]
      refine F_appD (hA.ext _) hX (sl_slc (sl_grow hsl2 _)).1 hcl2 hall2 (by omega) (by omega) fun q T' cs' h1 h2 h3 h4 h5 h6 h7 => ?_
      rw [hslg] at h4
      cases h4
      have b0 := h7 st.length _ (by rw [get_app0]; rfl) (fun r f n s e => by have := (hA.own r f n s e).2; omega)
      have b1 := h7 (st.length + 1) _ (by rw [get_app]; rfl) (fun r f n s e => by have := (hA.own r f n s e).2; omega)
      have h1 : st.length + 2 ≤ q := by simpa using h1
      have h3 : T'.take n0 = st.take n0 := by rw [h3, List.take_append_of_le_length hn]
      have h7 : ∀ i c, n0 ≤ i → st[i]? = some (some c) → (∀ r f n s, o = .own r f n s → i ≠ r) → T'[i]? = some (some c) := fun i c _ hi hne => h7 i c (by rw [List.getElem?_append_left (List.getElem?_eq_some_iff.1 hi).1]; exact hi) hne
      simp (disch:=first|assumption|omega|(simp only [lens];omega)) only [eqs,↓gvd_succ,↓gvd_zero,↓and_of,im_of,im_of trivial,vlt,hP,hst,initS,Nat.reduceBEq,Nat.reduceAdd,Nat.reduceMul,Nat.reduceSub,Nat.reduceDiv,Nat.reduceMod,Nat.reducePow,Nat.reduceLT,Nat.reduceLeDiff,Nat.reduceEqDiff,Int.reduceAdd,Int.reduceSub,Int.reduceNeg,Int.reduceMul,Int.reduceToNat,Int.reducePow,Int.reduceLE,Int.reduceLT,Int.reduceEq,Int.reduceNe,reduceIte,reduceCtorEq,ne_eq,not_true_eq_false,not_false_eq_true,imp_self,implies_true,bls,eq_self,b0,b1,la,ly,lz,lo,zD_map,zD7,hX2,List.append_nil,RN_fin]
      exact fin q T' h1 h2 h3 h5 h7 _ rfl
    · refine RN_alt rfl (.cons rfl <| .nil) ?_ RN_end
      simp (disch:=first|assumption|omega|(simp only [lens];omega)) only [eqs,↓gvd_succ,↓gvd_zero,↓and_of,im_of,im_of trivial,vlt,hP,hst,initS,Nat.reduceBEq,Nat.reduceAdd,Nat.reduceMul,Nat.reduceSub,Nat.reduceDiv,Nat.reduceMod,Nat.reducePow,Nat.reduceLT,Nat.reduceLeDiff,Nat.reduceEqDiff,Int.reduceAdd,Int.reduceSub,Int.reduceNeg,Int.reduceMul,Int.reduceToNat,Int.reducePow,Int.reduceLE,Int.reduceLT,Int.reduceEq,Int.reduceNe,reduceIte,reduceCtorEq,ne_eq,not_true_eq_false,not_false_eq_true,imp_self,implies_true,bls,eq_self,la,ly,lz,lo]
      refine RN_alt rfl (.cons rfl <| .cons rfl <| .cons rfl <| .cons rfl <| .nil) ?_ ?_
      · simp (disch:=first|assumption|omega|(simp only [lens];omega)) only [eqs,↓gvd_succ,↓gvd_zero,↓and_of,im_of,im_of trivial,vlt,hP,hst,initS,Nat.reduceBEq,Nat.reduceAdd,Nat.reduceMul,Nat.reduceSub,Nat.reduceDiv,Nat.reduceMod,Nat.reducePow,Nat.reduceLT,Nat.reduceLeDiff,Nat.reduceEqDiff,Int.reduceAdd,Int.reduceSub,Int.reduceNeg,Int.reduceMul,Int.reduceToNat,Int.reducePow,Int.reduceLE,Int.reduceLT,Int.reduceEq,Int.reduceNe,reduceIte,reduceCtorEq,ne_eq,not_true_eq_false,not_false_eq_true,imp_self,implies_true,bls,eq_self,la,ly,lz,lo]
        refine F_appD (hA.ext _) hX (sl_slc (sl_grow hsl2 _)).1 hcl2 hall2 (by omega) (by omega) fun q T' cs' h1 h2 h3 h4 h5 h6 h7 => ?_
        rw [hslg] at h4
        cases h4
        have b0 := h7 st.length _ (by rw [get_app0]; rfl) (fun r f n s e => by have := (hA.own r f n s e).2; omega)
        have b1 := h7 (st.length + 1) _ (by rw [get_app]; rfl) (fun r f n s e => by have := (hA.own r f n s e).2; omega)
        have h1 : st.length + 2 ≤ q := by simpa using h1
        have h3 : T'.take n0 = st.take n0 := by rw [h3, List.take_append_of_le_length hn]
        have h7 : ∀ i c, n0 ≤ i → st[i]? = some (some c) → (∀ r f n s, o = .own r f n s → i ≠ r) → T'[i]? = some (some c) := fun i c _ hi hne => h7 i c (by rw [List.getElem?_append_left (List.getElem?_eq_some_iff.1 hi).1]; exact hi) hne
        simp (disch:=first|assumption|omega|(simp only [lens];omega)) only [eqs,↓gvd_succ,↓gvd_zero,↓and_of,im_of,im_of trivial,vlt,hP,hst,initS,Nat.reduceBEq,Nat.reduceAdd,Nat.reduceMul,Nat.reduceSub,Nat.reduceDiv,Nat.reduceMod,Nat.reducePow,Nat.reduceLT,Nat.reduceLeDiff,Nat.reduceEqDiff,Int.reduceAdd,Int.reduceSub,Int.reduceNeg,Int.reduceMul,Int.reduceToNat,Int.reducePow,Int.reduceLE,Int.reduceLT,Int.reduceEq,Int.reduceNe,reduceIte,reduceCtorEq,ne_eq,not_true_eq_false,not_false_eq_true,imp_self,implies_true,bls,eq_self,b0,b1,la,ly,lz,lo,zD_map,zD7,hX2,List.append_nil,RN_fin]
        exact fin q T' h1 h2 h3 h5 h7 _ rfl
      · refine RN_alt rfl (.cons rfl <| .cons rfl <| .cons rfl <| .cons rfl <| .nil) ?_ RN_end
        simp (disch:=first|assumption|omega|(simp only [lens];omega)) only [eqs,↓gvd_succ,↓gvd_zero,↓and_of,im_of,im_of trivial,vlt,hP,hst,initS,Nat.reduceBEq,Nat.reduceAdd,Nat.reduceMul,Nat.reduceSub,Nat.reduceDiv,Nat.reduceMod,Nat.reducePow,Nat.reduceLT,Nat.reduceLeDiff,Nat.reduceEqDiff,Int.reduceAdd,Int.reduceSub,Int.reduceNeg,Int.reduceMul,Int.reduceToNat,Int.reducePow,Int.reduceLE,Int.reduceLT,Int.reduceEq,Int.reduceNe,reduceIte,reduceCtorEq,ne_eq,not_true_eq_false,not_false_eq_true,imp_self,implies_true,bls,eq_self,la,ly,lz,lo]
        refine F_appD (hA.ext _) hX (sl_slc (sl_grow hsl2 _)).1 hcl2 hall2 (by omega) (by omega) fun q T' cs' h1 h2 h3 h4 h5 h6 h7 => ?_
        rw [hslg] at h4
        cases h4
        have b0 := h7 st.length _ (by rw [get_app0]; rfl) (fun r f n s e => by have := (hA.own r f n s e).2; omega)
        have b1 := h7 (st.length + 1) _ (by rw [get_app]; rfl) (fun r f n s e => by have := (hA.own r f n s e).2; omega)
        have h1 : st.length + 2 ≤ q := by simpa using h1
        have h3 : T'.take n0 = st.take n0 := by rw [h3, List.take_append_of_le_length hn]
        have h7 : ∀ i c, n0 ≤ i → st[i]? = some (some c) → (∀ r f n s, o = .own r f n s → i ≠ r) → T'[i]? = some (some c) := fun i c _ hi hne => h7 i c (by rw [List.getElem?_append_left (List.getElem?_eq_some_iff.1 hi).1]; exact hi) hne
        simp (disch:=first|assumption|omega|(simp only [lens];omega)) only [eqs,↓gvd_succ,↓gvd_zero,↓and_of,im_of,im_of trivial,vlt,hP,hst,initS,Nat.reduceBEq,Nat.reduceAdd,Nat.reduceMul,Nat.reduceSub,Nat.reduceDiv,Nat.reduceMod,Nat.reducePow,Nat.reduceLT,Nat.reduceLeDiff,Nat.reduceEqDiff,Int.reduceAdd,Int.reduceSub,Int.reduceNeg,Int.reduceMul,Int.reduceToNat,Int.reducePow,Int.reduceLE,Int.reduceLT,Int.reduceEq,Int.reduceNe,reduceIte,reduceCtorEq,ne_eq,not_true_eq_false,not_false_eq_true,imp_self,implies_true,bls,eq_self,b0,b1,la,ly,lz,lo,zD_map,zD7,hX2,List.append_nil,RN_fin]
        exact fin q T' h1 h2 h3 h5 h7 _ rfl
  simp (disch:=first|assumption|omega|(simp only [lens];omega)) only [eqs,↓gvd_succ,↓gvd_zero,↓and_of,im_of,im_of trivial,vlt,hP,hst,initS,Nat.reduceBEq,Nat.reduceAdd,Nat.reduceMul,Nat.reduceSub,Nat.reduceDiv,Nat.reduceMod,Nat.reducePow,Nat.reduceLT,Nat.reduceLeDiff,Nat.reduceEqDiff,Int.reduceAdd,Int.reduceSub,Int.reduceNeg,Int.reduceMul,Int.reduceToNat,Int.reducePow,Int.reduceLE,Int.reduceLT,Int.reduceEq,Int.reduceNe,reduceIte,reduceCtorEq,ne_eq,not_true_eq_false,not_false_eq_true,imp_self,implies_true,bls,eq_self,la,ly,lz,hX2,lo,zrA1,zD_map]
  refine hK _ _ (by rw [List.take_append_of_le_length hn]) (by simp; omega) ?_
  unfold jn
  rw [if_neg h0, if_neg (by exact h5)]
  clear hdl
  have h1 := (hA.ext [some [AV.val (Value.int .i64 k), AV.val (Value.bool g), a, AV.val (Value.bool b), AV.val (Value.string s), y, z], some [AV.val (Value.int .i64 5), AV.val (Value.bool false), AV.val (Value.slice none 0 0), AV.val (Value.bool false), AV.val (Value.string ⟨#[]⟩), o, AV.own (st.length + 2) 0 1 7], some [AV.val (Value.int .i64 k), AV.val (Value.bool g), a, AV.val (Value.bool b), AV.val (Value.string s), y, z]]).fineDS
  have h2 := (hFi.all mono_DA).extN mono_DA hn [some [AV.val (Value.int .i64 k), AV.val (Value.bool g), a, AV.val (Value.bool b), AV.val (Value.string s), y, z], some [AV.val (Value.int .i64 5), AV.val (Value.bool false), AV.val (Value.slice none 0 0), AV.val (Value.bool false), AV.val (Value.string ⟨#[]⟩), o, AV.own (st.length + 2) 0 1 7], some [AV.val (Value.int .i64 k), AV.val (Value.bool g), a, AV.val (Value.bool b), AV.val (Value.string s), y, z]]
  intro B hB
  obtain ⟨c, hc, h3⟩ := h2 B hB
  cases hc
  refine DA.mk' Nm.nil (h1 B hB) ?_
  exact DS.own (ds := [.mk k g l b s its tls]) ⟨(get_low hB (by omega)).trans (by rw [get_app]; rfl)⟩ (.one h3)
end Go.Proofs.Pv

/- datum.norm: data as they must be. -/
namespace Go.Proofs.Pv
open Go Go.RowKit Go.Proofs
set_option maxRecDepth 20000

theorem take_get {T L : St} {n i : Nat} (h : T.take n = L) (hi : i < n) : T[i]? = L[i]? := by rw [← h, List.getElem?_take, if_pos hi]
theorem take_ext {T L : St} {n : Nat} (h : T.take n = L) : Ext L T := ⟨T.drop n, by rw [← h, List.take_append_drop]⟩
theorem szs_app' (l m : List Dt) : szs (l ++ m) = szs l + szs m := szs_app
mutual
theorem nrm_sz : ∀ d : Dt, (nrm d).sz ≤ d.sz
  | .mk k g l b s its tls => by
    have h1 := nrms_sz its
    have h2 := nrms_sz tls
    rw [sz_mk, nrm]
    have e0 : szs [] = 0 := by simp only [szs]
    split
    · unfold dNum; rw [sz_mk, e0]; omega
    split
    · rw [sz_mk, e0]; omega
    split
    · rw [sz_mk, e0]; omega
    split
    · split
      · rw [sz_mk, e0]; omega
      · rename_i t ts hts
        have e1 : szs (t :: ts) = t.sz + szs ts := by simp only [szs]
        rw [hts, e1] at h2
        unfold jn
        split
        · omega
        split
        · rw [sz_mk, szs_app']
          obtain ⟨k', g', l', b', s', its', tls'⟩ := t
          simp only [Dt.its, Dt.tls]
          rw [sz_mk] at h2
          omega
        · rw [sz_mk]
          have e2 : szs [t] = t.sz := by simp only [szs]; omega
          omega
    · rw [sz_mk, e0]; omega
theorem nrms_sz : ∀ ds : List Dt, szs (nrms ds) ≤ szs ds
  | [] => by simp [nrms]
  | d :: ds => by
    have h1 := nrm_sz d
    have h2 := nrms_sz ds
    simp only [nrms, szs]
    omega
end
theorem nrm_its (d : Dt) : (nrm d).its.length ≤ d.sz := by
  have h1 := nrm_sz d
  generalize nrm d = e at h1 ⊢
  obtain ⟨k, g, l, b, s, its, tls⟩ := e
  rw [sz_mk] at h1
  have := szs_len (ds := its)
  show its.length ≤ _
  omega
def RNormD (N : Nat) (xs : List AV) (st : St) (K : AV → St → Prop) : Prop := ∃ x d, xs = [x] ∧ DA st x d ∧ d.sz < N ∧ d.sz ≤ 100000 ∧ d.fit ∧ ∀ x' T, New st T x' (nrm d) → K x' T
set_option maxHeartbeats 4000000 in
theorem s_normD (N : Nat) : PSpec Tryd.prog 96 (RNormD N) := by
  induction N with
  | zero =>
    refine fspec_of (fn := Tryd.f96) 1 [.cell 2 27] (by kernel_rfl) rfl rfl (by kernel_rfl) mixed (by rintro _ _ _ ⟨x, d, rfl, _⟩; rfl) ?_
    rintro X _ st K hP hst ⟨x, d, rfl, hx, hN, _⟩
    omega
  | succ N ih =>
  refine fspec_of (fn := Tryd.f96) 1 [.cell 2 27] (by kernel_rfl) rfl rfl (by kernel_rfl) mixed (by rintro _ _ _ ⟨x, d, rfl, _⟩; rfl) ?_
  rintro X _ st K hP hst ⟨x, d, rfl, hx, hN, hM, hfit, hK⟩
  obtain ⟨k, g, a, l, b, s, x, y, its, tls, rfl, rfl, ha, hxs, hy⟩ := hx.inv
  have la := ha.leaf
  have lx := hxs.leaf
  have ly := hy.leaf
  rw [fit_mk] at hfit
  rw [sz_mk] at hN hM
  rw [nrm_mk] at hK
  have hX : X.st1.length = st.length := by rw [hst]
  have hX1 : X.st1.length ≤ st.length + 1 := by omega
  have hX2 : X.st1.length ≤ st.length + 2 := by omega
  refine vc_V ?_
  simp (disch:=first|assumption|omega|(simp only [lens];omega)) only [eqs,↓gvd_succ,↓gvd_zero,↓and_of,im_of,im_of trivial,vlt,hP,hst,initS,Nat.reduceBEq,Nat.reduceAdd,Nat.reduceMul,Nat.reduceSub,Nat.reduceDiv,Nat.reduceMod,Nat.reducePow,Nat.reduceLT,Nat.reduceLeDiff,Nat.reduceEqDiff,Int.reduceAdd,Int.reduceSub,Int.reduceNeg,Int.reduceMul,Int.reduceToNat,Int.reducePow,Int.reduceLE,Int.reduceLT,Int.reduceEq,Int.reduceNe,reduceIte,reduceCtorEq,ne_eq,not_true_eq_false,not_false_eq_true,imp_self,implies_true,bls,eq_self,la,lx,ly,zD_map,hX1,hX2,zD7,List.append_nil]
  refine C_dec (fun h1 => ?_) (fun h1 => ?_)
  · subst h1
    rw [if_pos rfl] at hK
    simp (disch:=first|assumption|omega|(simp only [lens];omega)) only [eqs,↓gvd_succ,↓gvd_zero,↓and_of,im_of,im_of trivial,vlt,hP,hst,initS,Nat.reduceBEq,Nat.reduceAdd,Nat.reduceMul,Nat.reduceSub,Nat.reduceDiv,Nat.reduceMod,Nat.reducePow,Nat.reduceLT,Nat.reduceLeDiff,Nat.reduceEqDiff,Int.reduceAdd,Int.reduceSub,Int.reduceNeg,Int.reduceMul,Int.reduceToNat,Int.reducePow,Int.reduceLE,Int.reduceLT,Int.reduceEq,Int.reduceNe,reduceIte,reduceCtorEq,ne_eq,not_true_eq_false,not_false_eq_true,imp_self,implies_true,bls,eq_self]
    refine E_call (hP ▸ s_wNorm) ⟨_, g, l, rfl, ⟨a, rfl, ha.app _⟩, hfit.1, fun z T hz => ?_⟩
    obtain ⟨a', rfl, hg⟩ := hz
    have e0 := hg.ex
    have g0 := (At.ext At.mk0 e0).get
    have g1 := (At.ext At.mk1 e0).get
    have g2 := (At.ext At.mk2 e0).get
    have l1 := (At.ext At.mk1 e0).lt
    have l2 := (At.ext At.mk2 e0).lt
    have la' := hg.nm.leaf
    have hne : st.length + 1 ≠ st.length + 2 := by omega
    have hlt : st.length + 1 < T.length := l1
    have hlt2 : st.length + 2 < T.length := l2
    simp (disch:=first|assumption|omega|(simp only [lens];omega)) only [eqs,↓gvd_succ,↓gvd_zero,↓and_of,im_of,im_of trivial,vlt,hP,hst,initS,Nat.reduceBEq,Nat.reduceAdd,Nat.reduceMul,Nat.reduceSub,Nat.reduceDiv,Nat.reduceMod,Nat.reducePow,Nat.reduceLT,Nat.reduceLeDiff,Nat.reduceEqDiff,Int.reduceAdd,Int.reduceSub,Int.reduceNeg,Int.reduceMul,Int.reduceToNat,Int.reducePow,Int.reduceLE,Int.reduceLT,Int.reduceEq,Int.reduceNe,reduceIte,reduceCtorEq,ne_eq,not_true_eq_false,not_false_eq_true,imp_self,implies_true,bls,eq_self,g0,g1,g2,la',hX1,hX2,List.getElem?_set_self,List.getElem?_set_ne,hne,hlt,hlt2,List.length_set]
    refine hK _ _ (New.of_fine (n1 := st.length + 3) ?_ (by omega) (by simp; omega) fun B hB => ?_)
    · rw [List.take_set_of_le (by omega), List.take_set_of_le (by omega)]
      obtain ⟨y0, rfl⟩ := e0
      simp
    · refine DA.mk' ?_ DS.nil DS.nil
      have := hg.fine B (by rw [hB]; simp)
      unfold mask at this ⊢
      simp only at this ⊢
      rw [drop_set_lt (by omega), drop_set_lt (by omega)]
      simpa using this
  rw [if_neg h1] at hK
  simp (disch:=first|assumption|omega|(simp only [lens];omega)) only [eqs,↓gvd_succ,↓gvd_zero,↓and_of,im_of,im_of trivial,vlt,hP,hst,initS,Nat.reduceBEq,Nat.reduceAdd,Nat.reduceMul,Nat.reduceSub,Nat.reduceDiv,Nat.reduceMod,Nat.reducePow,Nat.reduceLT,Nat.reduceLeDiff,Nat.reduceEqDiff,Int.reduceAdd,Int.reduceSub,Int.reduceNeg,Int.reduceMul,Int.reduceToNat,Int.reducePow,Int.reduceLE,Int.reduceLT,Int.reduceEq,Int.reduceNe,reduceIte,reduceCtorEq,ne_eq,not_true_eq_false,not_false_eq_true,imp_self,implies_true,bls,eq_self]
  refine C_dec (fun h2 => ?_) (fun h2 => ?_)
  · subst h2
    rw [if_pos rfl] at hK
    simp (disch:=first|assumption|omega|(simp only [lens];omega)) only [eqs,↓gvd_succ,↓gvd_zero,↓and_of,im_of,im_of trivial,vlt,hP,hst,initS,Nat.reduceBEq,Nat.reduceAdd,Nat.reduceMul,Nat.reduceSub,Nat.reduceDiv,Nat.reduceMod,Nat.reducePow,Nat.reduceLT,Nat.reduceLeDiff,Nat.reduceEqDiff,Int.reduceAdd,Int.reduceSub,Int.reduceNeg,Int.reduceMul,Int.reduceToNat,Int.reducePow,Int.reduceLE,Int.reduceLT,Int.reduceEq,Int.reduceNe,reduceIte,reduceCtorEq,ne_eq,not_true_eq_false,not_false_eq_true,imp_self,implies_true,bls,eq_self,hX1,hX2]
    exact hK _ _ ⟨_, rfl, fun B _ => DA.mk' Nm.nil DS.nil DS.nil⟩
  rw [if_neg h2] at hK
  simp (disch:=first|assumption|omega|(simp only [lens];omega)) only [eqs,↓gvd_succ,↓gvd_zero,↓and_of,im_of,im_of trivial,vlt,hP,hst,initS,Nat.reduceBEq,Nat.reduceAdd,Nat.reduceMul,Nat.reduceSub,Nat.reduceDiv,Nat.reduceMod,Nat.reducePow,Nat.reduceLT,Nat.reduceLeDiff,Nat.reduceEqDiff,Int.reduceAdd,Int.reduceSub,Int.reduceNeg,Int.reduceMul,Int.reduceToNat,Int.reducePow,Int.reduceLE,Int.reduceLT,Int.reduceEq,Int.reduceNe,reduceIte,reduceCtorEq,ne_eq,not_true_eq_false,not_false_eq_true,imp_self,implies_true,bls,eq_self]
  refine C_dec (fun h3 => ?_) (fun h3 => ?_)
  · subst h3
    rw [if_pos (.inl rfl)] at hK
    simp (disch:=first|assumption|omega|(simp only [lens];omega)) only [eqs,↓gvd_succ,↓gvd_zero,↓and_of,im_of,im_of trivial,vlt,hP,hst,initS,Nat.reduceBEq,Nat.reduceAdd,Nat.reduceMul,Nat.reduceSub,Nat.reduceDiv,Nat.reduceMod,Nat.reducePow,Nat.reduceLT,Nat.reduceLeDiff,Nat.reduceEqDiff,Int.reduceAdd,Int.reduceSub,Int.reduceNeg,Int.reduceMul,Int.reduceToNat,Int.reducePow,Int.reduceLE,Int.reduceLT,Int.reduceEq,Int.reduceNe,reduceIte,reduceCtorEq,ne_eq,not_true_eq_false,not_false_eq_true,imp_self,implies_true,bls,eq_self,hX1,hX2]
    exact hK _ _ ⟨_, rfl, fun B _ => DA.mk' Nm.nil DS.nil DS.nil⟩
  simp (disch:=first|assumption|omega|(simp only [lens];omega)) only [eqs,↓gvd_succ,↓gvd_zero,↓and_of,im_of,im_of trivial,vlt,hP,hst,initS,Nat.reduceBEq,Nat.reduceAdd,Nat.reduceMul,Nat.reduceSub,Nat.reduceDiv,Nat.reduceMod,Nat.reducePow,Nat.reduceLT,Nat.reduceLeDiff,Nat.reduceEqDiff,Int.reduceAdd,Int.reduceSub,Int.reduceNeg,Int.reduceMul,Int.reduceToNat,Int.reducePow,Int.reduceLE,Int.reduceLT,Int.reduceEq,Int.reduceNe,reduceIte,reduceCtorEq,ne_eq,not_true_eq_false,not_false_eq_true,imp_self,implies_true,bls,eq_self]
  refine C_dec (fun h4 => ?_) (fun h4 => ?_)
  · subst h4
    rw [if_pos (.inr rfl)] at hK
    simp (disch:=first|assumption|omega|(simp only [lens];omega)) only [eqs,↓gvd_succ,↓gvd_zero,↓and_of,im_of,im_of trivial,vlt,hP,hst,initS,Nat.reduceBEq,Nat.reduceAdd,Nat.reduceMul,Nat.reduceSub,Nat.reduceDiv,Nat.reduceMod,Nat.reducePow,Nat.reduceLT,Nat.reduceLeDiff,Nat.reduceEqDiff,Int.reduceAdd,Int.reduceSub,Int.reduceNeg,Int.reduceMul,Int.reduceToNat,Int.reducePow,Int.reduceLE,Int.reduceLT,Int.reduceEq,Int.reduceNe,reduceIte,reduceCtorEq,ne_eq,not_true_eq_false,not_false_eq_true,imp_self,implies_true,bls,eq_self,hX1,hX2]
    exact hK _ _ ⟨_, rfl, fun B _ => DA.mk' Nm.nil DS.nil DS.nil⟩
  rw [if_neg (by omega)] at hK
  simp (disch:=first|assumption|omega|(simp only [lens];omega)) only [eqs,↓gvd_succ,↓gvd_zero,↓and_of,im_of,im_of trivial,vlt,hP,hst,initS,Nat.reduceBEq,Nat.reduceAdd,Nat.reduceMul,Nat.reduceSub,Nat.reduceDiv,Nat.reduceMod,Nat.reducePow,Nat.reduceLT,Nat.reduceLeDiff,Nat.reduceEqDiff,Int.reduceAdd,Int.reduceSub,Int.reduceNeg,Int.reduceMul,Int.reduceToNat,Int.reducePow,Int.reduceLE,Int.reduceLT,Int.reduceEq,Int.reduceNe,reduceIte,reduceCtorEq,ne_eq,not_true_eq_false,not_false_eq_true,imp_self,implies_true,bls,eq_self]
  refine C_dec (fun h5 => ?_) (fun h5 => ?_)
  rotate_left
  · rw [if_neg h5] at hK
    simp (disch:=first|assumption|omega|(simp only [lens];omega)) only [eqs,↓gvd_succ,↓gvd_zero,↓and_of,im_of,im_of trivial,vlt,hP,hst,initS,Nat.reduceBEq,Nat.reduceAdd,Nat.reduceMul,Nat.reduceSub,Nat.reduceDiv,Nat.reduceMod,Nat.reducePow,Nat.reduceLT,Nat.reduceLeDiff,Nat.reduceEqDiff,Int.reduceAdd,Int.reduceSub,Int.reduceNeg,Int.reduceMul,Int.reduceToNat,Int.reducePow,Int.reduceLE,Int.reduceLT,Int.reduceEq,Int.reduceNe,reduceIte,reduceCtorEq,ne_eq,not_true_eq_false,not_false_eq_true,imp_self,implies_true,bls,eq_self,hX1,hX2]
    exact hK _ _ ⟨_, rfl, fun B _ => DA.mk' Nm.nil DS.nil DS.nil⟩
  subst h5
  rw [if_pos rfl] at hK
  simp (disch:=first|assumption|omega|(simp only [lens];omega)) only [eqs,↓gvd_succ,↓gvd_zero,↓and_of,im_of,im_of trivial,vlt,hP,hst,initS,Nat.reduceBEq,Nat.reduceAdd,Nat.reduceMul,Nat.reduceSub,Nat.reduceDiv,Nat.reduceMod,Nat.reducePow,Nat.reduceLT,Nat.reduceLeDiff,Nat.reduceEqDiff,Int.reduceAdd,Int.reduceSub,Int.reduceNeg,Int.reduceMul,Int.reduceToNat,Int.reducePow,Int.reduceLE,Int.reduceLT,Int.reduceEq,Int.reduceNe,reduceIte,reduceCtorEq,ne_eq,not_true_eq_false,not_false_eq_true,imp_self,implies_true,bls,eq_self]
  refine E_call (hP ▸ s_Values) ⟨x, rfl, lx, ?_⟩
  simp (disch:=first|assumption|omega|(simp only [lens];omega)) only [eqs,↓gvd_succ,↓gvd_zero,↓and_of,im_of,im_of trivial,vlt,hP,hst,initS,Nat.reduceBEq,Nat.reduceAdd,Nat.reduceMul,Nat.reduceSub,Nat.reduceDiv,Nat.reduceMod,Nat.reducePow,Nat.reduceLT,Nat.reduceLeDiff,Nat.reduceEqDiff,Int.reduceAdd,Int.reduceSub,Int.reduceNeg,Int.reduceMul,Int.reduceToNat,Int.reducePow,Int.reduceLE,Int.reduceLT,Int.reduceEq,Int.reduceNe,reduceIte,reduceCtorEq,ne_eq,not_true_eq_false,not_false_eq_true,imp_self,implies_true,bls,eq_self]
  obtain ⟨cs, hsl, hdl, hcl⟩ := hxs.inv
  have hlen := szs_len (ds := its)
  refine V_values hP (n := its.length) (cs := cs) (sv := x) (r := st.length + 3) (by kernel_rfl) (by kernel_rfl) ?_ (by omega) rfl (by rw [get_app]; rfl) (sl_grow hsl _) hdl.all fun S G => ?_
  · intro N h
    exact Nat.lt_trans (by decide : 32 < 33) (okD_spec (show Array.all _ (okD N) = true from h) _ List.mem_cons_self 33 rfl)
  refine ⟨fun i T => st.length + 6 ≤ T.length ∧ ∃ o, T.take (st.length + 6) = st ++ [some [.val (.int .i64 5), .val (.bool g), a, .val (.bool b), .val (.string s), x, y], some [.val (.int .i64 0), .val (.bool false), .val (.slice none 0 0), .val (.bool false), .val (.string ⟨#[]⟩), .val (.slice none 0 0), .val (.slice none 0 0)], some [.val (.int .i64 5), .val (.bool false), .val (.slice none 0 0), .val (.bool false), .val (.string ⟨#[]⟩), o, .val (.slice none 0 0)], some [x], none, some [.gh S G]] ∧ Acc (st.length + 6) T o ((its.take i).map nrm), ?_, ?_, ?_, ?_⟩
  · refine ⟨by simp, nilV, by simp only [List.append_assoc, List.cons_append, List.nil_append]; exact List.take_of_length_le (by simp), ⟨by simp, .inl ⟨rfl, rfl⟩⟩⟩
  · rintro i T ⟨h1, o, h2, h3⟩
    have h4 := take_get (i := st.length + 5) h2 (by omega)
    rw [get_app] at h4
    refine ⟨by simpa using h4, ?_⟩
    obtain ⟨z, rfl⟩ := take_ext h2
    rw [List.append_assoc]
    exact sl_grow hsl _
  · rintro i T hi ⟨h1, o, h2, h3⟩ Y hYP hY0 hY1
    have hsT : Pv.sl 7 T x = some (its.length, cs) := by
      obtain ⟨z, rfl⟩ := take_ext h2
      rw [List.append_assoc]
      exact sl_grow hsl _
    obtain ⟨cs0, c, e, hsl', hcl', hc, hc7, hca, he, hec, hb1, hb2⟩ := hxs.at (i := i) hi
    rw [hsl] at hsl'
    cases hsl'
    rw [hc]
    have t7 := List.take_of_length_le (Nat.le_of_eq hc7)
    have hX3 : Y.st1.length ≤ T.length := by rw [hY1]; omega
    simp (disch:=first|assumption|omega|(simp only [lens];omega)) only [eqs,↓gvd_succ,↓gvd_zero,↓and_of,im_of,im_of trivial,vlt,hP,hst,initS,Nat.reduceBEq,Nat.reduceAdd,Nat.reduceMul,Nat.reduceSub,Nat.reduceDiv,Nat.reduceMod,Nat.reducePow,Nat.reduceLT,Nat.reduceLeDiff,Nat.reduceEqDiff,Int.reduceAdd,Int.reduceSub,Int.reduceNeg,Int.reduceMul,Int.reduceToNat,Int.reducePow,Int.reduceLE,Int.reduceLT,Int.reduceEq,Int.reduceNe,reduceIte,reduceCtorEq,ne_eq,not_true_eq_false,not_false_eq_true,imp_self,implies_true,bls,eq_self,hYP,hca,hc7,take7 hc7,t7,zD_drop,zD_len,List.append_nil,hX3]
    intro Z hZP hZ0 hZ1
    have hZX : Z.st1.length ≤ st.length + 2 := by rw [hZ1]; omega
    have hZX6 : Z.st1.length ≤ st.length + 6 := by omega
    obtain ⟨ds, hds⟩ : ∃ ds, (its.take i).map nrm = ds := ⟨_, rfl⟩
    rw [hds] at h3
    have hdl2 : ds.length = i := by rw [← hds]; simp; omega
    obtain ⟨co, hco, hdo, hcol⟩ := h3.cells
    have hcog := fun y => sl_grow hco y
    have lo := sl_leaf hco
    have e2 : Ext _ T := take_ext h2
    have g2 := (At.ext (c := [.val (.int .i64 5), .val (.bool false), .val (.slice none 0 0), .val (.bool false), .val (.string ⟨#[]⟩), o, .val (.slice none 0 0)]) At.mk2 e2).get
    have hlt2 : st.length + 2 < T.length := by omega
    have g2c : (T ++ [some c])[st.length + 2]? = some (some [.val (.int .i64 5), .val (.bool false), .val (.slice none 0 0), .val (.bool false), .val (.string ⟨#[]⟩), o, .val (.slice none 0 0)]) := by rw [List.getElem?_append_left hlt2]; exact g2
    refine V_ordersF (Tn.seq [(0, false), (1, false), (2, false), (4, false)] (.alt 3 (Tn.seq [(5, true), (6, true)] (.alt 7 (Tn.seq [] (.alt 8 (Tn.seq [(9, false), (10, true)] .fin) (.alt 9 (Tn.seq [] (.alt 8 (Tn.seq [(10, true)] .fin) (.alt 10 (Tn.seq [(8, true)] .fin) .fin))) .fin))) (.alt 9 (Tn.seq [] (.alt 7 (Tn.seq [] (.alt 8 (Tn.seq [(10, true)] .fin) (.alt 10 (Tn.seq [(8, true)] .fin) .fin))) (.alt 10 (Tn.seq [(7, false), (8, true)] .fin) .fin))) .fin))) (.alt 5 (Tn.seq [(3, true), (6, true)] (.alt 7 (Tn.seq [] (.alt 8 (Tn.seq [(9, false), (10, true)] .fin) (.alt 9 (Tn.seq [] (.alt 8 (Tn.seq [(10, true)] .fin) (.alt 10 (Tn.seq [(8, true)] .fin) .fin))) .fin))) (.alt 9 (Tn.seq [] (.alt 7 (Tn.seq [] (.alt 8 (Tn.seq [(10, true)] .fin) (.alt 10 (Tn.seq [(8, true)] .fin) .fin))) (.alt 10 (Tn.seq [(7, false), (8, true)] .fin) .fin))) .fin))) .fin))) (by kernel_rfl) fun F hF => ?_
    rw [RN_seq rfl (.cons rfl <| .cons rfl <| .cons rfl <| .cons rfl <| .nil)]
    simp (disch:=first|assumption|omega|(simp only [lens];omega)) only [eqs,↓gvd_succ,↓gvd_zero,↓and_of,im_of,im_of trivial,vlt,hP,hst,initS,Nat.reduceBEq,Nat.reduceAdd,Nat.reduceMul,Nat.reduceSub,Nat.reduceDiv,Nat.reduceMod,Nat.reducePow,Nat.reduceLT,Nat.reduceLeDiff,Nat.reduceEqDiff,Int.reduceAdd,Int.reduceSub,Int.reduceNeg,Int.reduceMul,Int.reduceToNat,Int.reducePow,Int.reduceLE,Int.reduceLT,Int.reduceEq,Int.reduceNe,reduceIte,reduceCtorEq,ne_eq,not_true_eq_false,not_false_eq_true,imp_self,implies_true,bls,eq_self,hZP,g2c,hcog,hc7,t7,take7 hc7,hca]
    have hes := szs_mem (List.mem_of_getElem? he)
    have hef := fits_mem hfit.2.1 (List.mem_of_getElem? he)
    have est : Ext st T := (Ext.add _).trans e2
    have fin : ∀ (T2 T' : St) (q : Nat) (c' : List AV), Ext T T2 → Acc (st.length + 6) T2 o ds → (Fine (st.length + 6) T2 o fun S => DA S (.agg c') (nrm e)) → T2.length ≤ q → q < T'.length → T'.take (st.length + 6) = T2.take (st.length + 6) → (∀ i c, T2[i]? = some (some c) → (∀ r f n s, o = .own r f n s → i ≠ r) → T'[i]? = some (some c)) →
        ∀ s0, F s0 ((T'.set q (some (co ++ c'))).set (st.length + 2) (some [.val (.int .i64 5), .val (.bool false), .val (.slice none 0 0), .val (.bool false), .val (.string ⟨#[]⟩), .own q 0 (ds.length + 1) 7, .val (.slice none 0 0)])) := by
      intro T2 T' q c' e3 hA2 hF2 q1 q2 q3 q4 s0
      rw [hF]
      have hl3 := e3.len
      have hc7' : c'.length = 7 := by
        obtain ⟨_, hc, hdc⟩ := hF2.da mono_DA (by omega)
        cases hc
        exact hdc.len
      have hmv : ∀ P, Mono P → Fine (st.length + 6) T2 o P → Fine (st.length + 6) ((T'.set q (some (co ++ c'))).set (st.length + 2) (some [.val (.int .i64 5), .val (.bool false), .val (.slice none 0 0), .val (.bool false), .val (.string ⟨#[]⟩), .own q 0 (ds.length + 1) 7, .val (.slice none 0 0)])) (.own q 0 (ds.length + 1) 7) P := fun P hP hFP => hFP.move hP (fun r f n s e => (hA2.own r f n s e).1) (fun r f n s e => by cases e; omega) fun i c hi hc hne => by
        have hil := (List.getElem?_eq_some_iff.1 hc).1
        refine ⟨?_, fun r f n s e => by cases e; omega⟩
        rw [List.getElem?_set_ne (by omega), List.getElem?_set_ne (by omega)]
        exact q4 i c hc hne
      have hdo2 : Fine (st.length + 6) T2 o fun S => DL S co ds := by
        obtain ⟨z, rfl⟩ := e3
        exact hdo.ext mono_DL h3 z
      simp (disch:=first|assumption|omega|(simp only [lens];omega)) only [eqs,↓gvd_succ,↓gvd_zero,↓and_of,im_of,im_of trivial,vlt,hP,hst,initS,Nat.reduceBEq,Nat.reduceAdd,Nat.reduceMul,Nat.reduceSub,Nat.reduceDiv,Nat.reduceMod,Nat.reducePow,Nat.reduceLT,Nat.reduceLeDiff,Nat.reduceEqDiff,Int.reduceAdd,Int.reduceSub,Int.reduceNeg,Int.reduceMul,Int.reduceToNat,Int.reducePow,Int.reduceLE,Int.reduceLT,Int.reduceEq,Int.reduceNe,reduceIte,reduceCtorEq,ne_eq,not_true_eq_false,not_false_eq_true,imp_self,implies_true,bls,eq_self]
      refine ⟨.own q 0 (ds.length + 1) 7, ?_, ⟨by simp; omega, .inr ⟨q, co ++ c', [], ?_, by omega, ?_, ?_, ?_⟩⟩⟩
      rotate_left
      · simp [take_succ' he, hds]
      · rw [List.getElem?_set_ne (by omega), List.getElem?_set_self (by omega), List.append_nil]
      · simp [take_succ' he, hds, hcol, hc7']; omega
      · have h8 := hmv _ mono_DL hdo2
        have h9 := hmv _ mono_DA hF2
        intro B hB
        rw [take_succ' he, List.map_append, hds]
        obtain ⟨_, hc, hdc⟩ := h9 B hB
        cases hc
        have := (h8 B hB).app (.one hdc)
        simpa using this
      · rw [List.take_set, List.take_set_of_le (by omega), q3]
        obtain ⟨z, rfl⟩ := e3
        rw [List.take_append_of_le_length h1, h2, List.set_append_right _ _ (by omega)]
        simp
    refine RN_alt rfl (.cons rfl <| .cons rfl <| .cons rfl <| .nil) ?_ ?_
    · simp (disch:=first|assumption|omega|(simp only [lens];omega)) only [eqs,↓gvd_succ,↓gvd_zero,↓and_of,im_of,im_of trivial,vlt,hP,hst,initS,Nat.reduceBEq,Nat.reduceAdd,Nat.reduceMul,Nat.reduceSub,Nat.reduceDiv,Nat.reduceMod,Nat.reducePow,Nat.reduceLT,Nat.reduceLeDiff,Nat.reduceEqDiff,Int.reduceAdd,Int.reduceSub,Int.reduceNeg,Int.reduceMul,Int.reduceToNat,Int.reducePow,Int.reduceLE,Int.reduceLT,Int.reduceEq,Int.reduceNe,reduceIte,reduceCtorEq,ne_eq,not_true_eq_false,not_false_eq_true,imp_self,implies_true,bls,eq_self,hZP]
      refine E_call (hZP ▸ ih) ⟨_, e, rfl, ⟨c, rfl, hec.ext (est.trans (.add _))⟩, by omega, by omega, hef, fun x' T2 hN2 => ?_⟩
      have hA2 : Acc (st.length + 6) T2 o ds := by
        obtain ⟨z, rfl⟩ := hN2.ex
        exact (h3.ext _).ext z
      have eT : Ext T T2 := (Ext.add _).trans hN2.ex
      have hF2 := hN2.fine (h3.ext _)
      obtain ⟨c', rfl, hdc'⟩ := hN2.da
      have lc7 := hdc'.len
      have lca := hdc'.all
      simp (disch:=first|assumption|omega|(simp only [lens];omega)) only [eqs,↓gvd_succ,↓gvd_zero,↓and_of,im_of,im_of trivial,vlt,hP,hst,initS,Nat.reduceBEq,Nat.reduceAdd,Nat.reduceMul,Nat.reduceSub,Nat.reduceDiv,Nat.reduceMod,Nat.reducePow,Nat.reduceLT,Nat.reduceLeDiff,Nat.reduceEqDiff,Int.reduceAdd,Int.reduceSub,Int.reduceNeg,Int.reduceMul,Int.reduceToNat,Int.reducePow,Int.reduceLE,Int.reduceLT,Int.reduceEq,Int.reduceNe,reduceIte,reduceCtorEq,ne_eq,not_true_eq_false,not_false_eq_true,imp_self,implies_true,bls,eq_self,hZP,zrA1,zD7]
      refine F_appD (hA2.ext _) hZX6 (m := 1) (ys := [.val (.int .i64 0), .val (.bool false), .val (.slice none 0 0), .val (.bool false), .val (.string ⟨#[]⟩), .val (.slice none 0 0), .val (.slice none 0 0)]) (by rw [slc_own_eq, get_app0]; rfl) rfl rfl (by omega) (by omega) fun q T' co' h1 h2 h3' h4 h5 h6 h7 => ?_
      have h4' : co' = co := by
        obtain ⟨z, hz⟩ := eT
        have h4'' := sl_grow hco z
        rw [← hz] at h4''
        rw [sl_grow h4'' _] at h4
        cases h4
        rfl
      subst h4'
      have h1 : T2.length ≤ q := by simp at h1; omega
      have h3 : T'.take (st.length + 6) = T2.take (st.length + 6) := by rw [h3', List.take_append_of_le_length hA2.len]
      have h7 : ∀ i c, T2[i]? = some (some c) → (∀ r f n s, o = .own r f n s → i ≠ r) → T'[i]? = some (some c) := fun i c hi hne => h7 i c (by rw [List.getElem?_append_left (List.getElem?_eq_some_iff.1 hi).1]; exact hi) hne
      have b2 : T'[st.length + 2]? = some (some [.val (.int .i64 5), .val (.bool false), .val (.slice none 0 0), .val (.bool false), .val (.string ⟨#[]⟩), o, .val (.slice none 0 0)]) := by
        rw [take_get h3 (by omega), List.getElem?_take, if_pos (by omega)]
        obtain ⟨z, rfl⟩ := eT
        rw [List.getElem?_append_left hlt2]; exact g2
      have bq := h5
      have hqX : Z.st1.length ≤ q := by have := eT.len; omega
      have hq0 : q ≠ st.length + 2 := by have := eT.len; omega
      have hq1 : st.length + 2 ≠ q := by have := eT.len; omega
      have e1 : List.take (ds.length * 7) (co' ++ ([.val (.int .i64 0), .val (.bool false), .val (.slice none 0 0), .val (.bool false), .val (.string ⟨#[]⟩), .val (.slice none 0 0), .val (.slice none 0 0)] : List AV)) = co' := by rw [← h6]; exact List.take_left
      have e3 : List.drop (ds.length * 7 + 7) (co' ++ ([.val (.int .i64 0), .val (.bool false), .val (.slice none 0 0), .val (.bool false), .val (.string ⟨#[]⟩), .val (.slice none 0 0), .val (.slice none 0 0)] : List AV)) = [] := List.drop_eq_nil_of_le (by simp [h6])
      have e4 : ds.length * 7 + 7 ≤ (co' ++ ([.val (.int .i64 0), .val (.bool false), .val (.slice none 0 0), .val (.bool false), .val (.string ⟨#[]⟩), .val (.slice none 0 0), .val (.slice none 0 0)] : List AV)).length := by simp [h6]
      simp (disch:=first|assumption|omega|(simp only [lens];omega)) only [eqs,↓gvd_succ,↓gvd_zero,↓and_of,im_of,im_of trivial,vlt,hP,hst,initS,Nat.reduceBEq,Nat.reduceAdd,Nat.reduceMul,Nat.reduceSub,Nat.reduceDiv,Nat.reduceMod,Nat.reducePow,Nat.reduceLT,Nat.reduceLeDiff,Nat.reduceEqDiff,Int.reduceAdd,Int.reduceSub,Int.reduceNeg,Int.reduceMul,Int.reduceToNat,Int.reducePow,Int.reduceLE,Int.reduceLT,Int.reduceEq,Int.reduceNe,reduceIte,reduceCtorEq,ne_eq,not_true_eq_false,not_false_eq_true,imp_self,implies_true,bls,eq_self,hZP]
      refine RN_alt rfl (.cons rfl <| .nil) ?_ ?_
      · simp (disch:=first|assumption|omega|(simp only [lens];omega)) only [eqs,↓gvd_succ,↓gvd_zero,↓and_of,im_of,im_of trivial,vlt,hP,hst,initS,Nat.reduceBEq,Nat.reduceAdd,Nat.reduceMul,Nat.reduceSub,Nat.reduceDiv,Nat.reduceMod,Nat.reducePow,Nat.reduceLT,Nat.reduceLeDiff,Nat.reduceEqDiff,Int.reduceAdd,Int.reduceSub,Int.reduceNeg,Int.reduceMul,Int.reduceToNat,Int.reducePow,Int.reduceLE,Int.reduceLT,Int.reduceEq,Int.reduceNe,reduceIte,reduceCtorEq,ne_eq,not_true_eq_false,not_false_eq_true,imp_self,implies_true,bls,eq_self,hZP,b2,bq,hZX6,hZX,lo,lc7,lca,List.append_nil,RN_fin,hqX,hq0,hq1,List.getElem?_set_ne,e1,e3,e4]
        refine RN_alt rfl (.cons rfl <| .cons rfl <| .cons rfl <| .nil) ?_ ?_
        · simp (disch:=first|assumption|omega|(simp only [lens];omega)) only [eqs,↓gvd_succ,↓gvd_zero,↓and_of,im_of,im_of trivial,vlt,hP,hst,initS,Nat.reduceBEq,Nat.reduceAdd,Nat.reduceMul,Nat.reduceSub,Nat.reduceDiv,Nat.reduceMod,Nat.reducePow,Nat.reduceLT,Nat.reduceLeDiff,Nat.reduceEqDiff,Int.reduceAdd,Int.reduceSub,Int.reduceNeg,Int.reduceMul,Int.reduceToNat,Int.reducePow,Int.reduceLE,Int.reduceLT,Int.reduceEq,Int.reduceNe,reduceIte,reduceCtorEq,ne_eq,not_true_eq_false,not_false_eq_true,imp_self,implies_true,bls,eq_self,hZP,b2,bq,hZX6,hZX,lo,lc7,lca,List.append_nil,RN_fin,hqX,hq0,hq1,List.getElem?_set_ne,e1,e3,e4]
          exact fin T2 T' q c' eT hA2 hF2 h1 h2 h3 h7 _
        · skip
          refine RN_alt rfl (.cons rfl <| .nil) ?_ RN_end
          simp (disch:=first|assumption|omega|(simp only [lens];omega)) only [eqs,↓gvd_succ,↓gvd_zero,↓and_of,im_of,im_of trivial,vlt,hP,hst,initS,Nat.reduceBEq,Nat.reduceAdd,Nat.reduceMul,Nat.reduceSub,Nat.reduceDiv,Nat.reduceMod,Nat.reducePow,Nat.reduceLT,Nat.reduceLeDiff,Nat.reduceEqDiff,Int.reduceAdd,Int.reduceSub,Int.reduceNeg,Int.reduceMul,Int.reduceToNat,Int.reducePow,Int.reduceLE,Int.reduceLT,Int.reduceEq,Int.reduceNe,reduceIte,reduceCtorEq,ne_eq,not_true_eq_false,not_false_eq_true,imp_self,implies_true,bls,eq_self,hZP,b2,bq,hZX6,hZX,lo,lc7,lca,List.append_nil,RN_fin,hqX,hq0,hq1,List.getElem?_set_ne,e1,e3,e4]
          refine RN_alt rfl (.cons rfl <| .cons rfl <| .nil) ?_ ?_
          · simp (disch:=first|assumption|omega|(simp only [lens];omega)) only [eqs,↓gvd_succ,↓gvd_zero,↓and_of,im_of,im_of trivial,vlt,hP,hst,initS,Nat.reduceBEq,Nat.reduceAdd,Nat.reduceMul,Nat.reduceSub,Nat.reduceDiv,Nat.reduceMod,Nat.reducePow,Nat.reduceLT,Nat.reduceLeDiff,Nat.reduceEqDiff,Int.reduceAdd,Int.reduceSub,Int.reduceNeg,Int.reduceMul,Int.reduceToNat,Int.reducePow,Int.reduceLE,Int.reduceLT,Int.reduceEq,Int.reduceNe,reduceIte,reduceCtorEq,ne_eq,not_true_eq_false,not_false_eq_true,imp_self,implies_true,bls,eq_self,hZP,b2,bq,hZX6,hZX,lo,lc7,lca,List.append_nil,RN_fin,hqX,hq0,hq1,List.getElem?_set_ne,e1,e3,e4]
            exact fin T2 T' q c' eT hA2 hF2 h1 h2 h3 h7 _
          · skip
            refine RN_alt rfl (.cons rfl <| .cons rfl <| .nil) ?_ RN_end
            simp (disch:=first|assumption|omega|(simp only [lens];omega)) only [eqs,↓gvd_succ,↓gvd_zero,↓and_of,im_of,im_of trivial,vlt,hP,hst,initS,Nat.reduceBEq,Nat.reduceAdd,Nat.reduceMul,Nat.reduceSub,Nat.reduceDiv,Nat.reduceMod,Nat.reducePow,Nat.reduceLT,Nat.reduceLeDiff,Nat.reduceEqDiff,Int.reduceAdd,Int.reduceSub,Int.reduceNeg,Int.reduceMul,Int.reduceToNat,Int.reducePow,Int.reduceLE,Int.reduceLT,Int.reduceEq,Int.reduceNe,reduceIte,reduceCtorEq,ne_eq,not_true_eq_false,not_false_eq_true,imp_self,implies_true,bls,eq_self,hZP,b2,bq,hZX6,hZX,lo,lc7,lca,List.append_nil,RN_fin,hqX,hq0,hq1,List.getElem?_set_ne,e1,e3,e4]
            rw [List.set_comm _ _ (by omega)]; exact fin T2 T' q c' eT hA2 hF2 h1 h2 h3 h7 _
      · skip
        refine RN_alt rfl (.cons rfl <| .nil) ?_ RN_end
        simp (disch:=first|assumption|omega|(simp only [lens];omega)) only [eqs,↓gvd_succ,↓gvd_zero,↓and_of,im_of,im_of trivial,vlt,hP,hst,initS,Nat.reduceBEq,Nat.reduceAdd,Nat.reduceMul,Nat.reduceSub,Nat.reduceDiv,Nat.reduceMod,Nat.reducePow,Nat.reduceLT,Nat.reduceLeDiff,Nat.reduceEqDiff,Int.reduceAdd,Int.reduceSub,Int.reduceNeg,Int.reduceMul,Int.reduceToNat,Int.reducePow,Int.reduceLE,Int.reduceLT,Int.reduceEq,Int.reduceNe,reduceIte,reduceCtorEq,ne_eq,not_true_eq_false,not_false_eq_true,imp_self,implies_true,bls,eq_self,hZP,b2,bq,hZX6,hZX,lo,lc7,lca,List.append_nil,RN_fin,hqX,hq0,hq1,List.getElem?_set_ne,e1,e3,e4]
        refine RN_alt rfl (.cons rfl <| .nil) ?_ ?_
        · simp (disch:=first|assumption|omega|(simp only [lens];omega)) only [eqs,↓gvd_succ,↓gvd_zero,↓and_of,im_of,im_of trivial,vlt,hP,hst,initS,Nat.reduceBEq,Nat.reduceAdd,Nat.reduceMul,Nat.reduceSub,Nat.reduceDiv,Nat.reduceMod,Nat.reducePow,Nat.reduceLT,Nat.reduceLeDiff,Nat.reduceEqDiff,Int.reduceAdd,Int.reduceSub,Int.reduceNeg,Int.reduceMul,Int.reduceToNat,Int.reducePow,Int.reduceLE,Int.reduceLT,Int.reduceEq,Int.reduceNe,reduceIte,reduceCtorEq,ne_eq,not_true_eq_false,not_false_eq_true,imp_self,implies_true,bls,eq_self,hZP,b2,bq,hZX6,hZX,lo,lc7,lca,List.append_nil,RN_fin,hqX,hq0,hq1,List.getElem?_set_ne,e1,e3,e4]
          refine RN_alt rfl (.cons rfl <| .cons rfl <| .nil) ?_ ?_
          · simp (disch:=first|assumption|omega|(simp only [lens];omega)) only [eqs,↓gvd_succ,↓gvd_zero,↓and_of,im_of,im_of trivial,vlt,hP,hst,initS,Nat.reduceBEq,Nat.reduceAdd,Nat.reduceMul,Nat.reduceSub,Nat.reduceDiv,Nat.reduceMod,Nat.reducePow,Nat.reduceLT,Nat.reduceLeDiff,Nat.reduceEqDiff,Int.reduceAdd,Int.reduceSub,Int.reduceNeg,Int.reduceMul,Int.reduceToNat,Int.reducePow,Int.reduceLE,Int.reduceLT,Int.reduceEq,Int.reduceNe,reduceIte,reduceCtorEq,ne_eq,not_true_eq_false,not_false_eq_true,imp_self,implies_true,bls,eq_self,hZP,b2,bq,hZX6,hZX,lo,lc7,lca,List.append_nil,RN_fin,hqX,hq0,hq1,List.getElem?_set_ne,e1,e3,e4]
            exact fin T2 T' q c' eT hA2 hF2 h1 h2 h3 h7 _
          · skip
            refine RN_alt rfl (.cons rfl <| .cons rfl <| .nil) ?_ RN_end
            simp (disch:=first|assumption|omega|(simp only [lens];omega)) only [eqs,↓gvd_succ,↓gvd_zero,↓and_of,im_of,im_of trivial,vlt,hP,hst,initS,Nat.reduceBEq,Nat.reduceAdd,Nat.reduceMul,Nat.reduceSub,Nat.reduceDiv,Nat.reduceMod,Nat.reducePow,Nat.reduceLT,Nat.reduceLeDiff,Nat.reduceEqDiff,Int.reduceAdd,Int.reduceSub,Int.reduceNeg,Int.reduceMul,Int.reduceToNat,Int.reducePow,Int.reduceLE,Int.reduceLT,Int.reduceEq,Int.reduceNe,reduceIte,reduceCtorEq,ne_eq,not_true_eq_false,not_false_eq_true,imp_self,implies_true,bls,eq_self,hZP,b2,bq,hZX6,hZX,lo,lc7,lca,List.append_nil,RN_fin,hqX,hq0,hq1,List.getElem?_set_ne,e1,e3,e4]
            rw [List.set_comm _ _ (by omega)]; exact fin T2 T' q c' eT hA2 hF2 h1 h2 h3 h7 _
        · skip
          refine RN_alt rfl (.cons rfl <| .cons rfl <| .cons rfl <| .nil) ?_ RN_end
          simp (disch:=first|assumption|omega|(simp only [lens];omega)) only [eqs,↓gvd_succ,↓gvd_zero,↓and_of,im_of,im_of trivial,vlt,hP,hst,initS,Nat.reduceBEq,Nat.reduceAdd,Nat.reduceMul,Nat.reduceSub,Nat.reduceDiv,Nat.reduceMod,Nat.reducePow,Nat.reduceLT,Nat.reduceLeDiff,Nat.reduceEqDiff,Int.reduceAdd,Int.reduceSub,Int.reduceNeg,Int.reduceMul,Int.reduceToNat,Int.reducePow,Int.reduceLE,Int.reduceLT,Int.reduceEq,Int.reduceNe,reduceIte,reduceCtorEq,ne_eq,not_true_eq_false,not_false_eq_true,imp_self,implies_true,bls,eq_self,hZP,b2,bq,hZX6,hZX,lo,lc7,lca,List.append_nil,RN_fin,hqX,hq0,hq1,List.getElem?_set_ne,e1,e3,e4]
          rw [List.set_comm _ _ (by omega)]; exact fin T2 T' q c' eT hA2 hF2 h1 h2 h3 h7 _
    · refine RN_alt rfl (.cons rfl <| .cons rfl <| .cons rfl <| .nil) ?_ RN_end
      simp (disch:=first|assumption|omega|(simp only [lens];omega)) only [eqs,↓gvd_succ,↓gvd_zero,↓and_of,im_of,im_of trivial,vlt,hP,hst,initS,Nat.reduceBEq,Nat.reduceAdd,Nat.reduceMul,Nat.reduceSub,Nat.reduceDiv,Nat.reduceMod,Nat.reducePow,Nat.reduceLT,Nat.reduceLeDiff,Nat.reduceEqDiff,Int.reduceAdd,Int.reduceSub,Int.reduceNeg,Int.reduceMul,Int.reduceToNat,Int.reducePow,Int.reduceLE,Int.reduceLT,Int.reduceEq,Int.reduceNe,reduceIte,reduceCtorEq,ne_eq,not_true_eq_false,not_false_eq_true,imp_self,implies_true,bls,eq_self,hZP,zrA1,zD7]
      refine E_call (hZP ▸ ih) ⟨_, e, rfl, ⟨c, rfl, hec.ext (est.trans (.add _))⟩, by omega, by omega, hef, fun x' T2 hN2 => ?_⟩
      have hA2 : Acc (st.length + 6) T2 o ds := by
        obtain ⟨z, rfl⟩ := hN2.ex
        exact (h3.ext _).ext z
      have eT : Ext T T2 := (Ext.add _).trans hN2.ex
      have hF2 := hN2.fine (h3.ext _)
      have hsz : slc T2 (.own (T.length + 1) 0 1 7) = some (1, [.val (.int .i64 0), .val (.bool false), .val (.slice none 0 0), .val (.bool false), .val (.string ⟨#[]⟩), .val (.slice none 0 0), .val (.slice none 0 0)]) := by
        obtain ⟨z, rfl⟩ := hN2.ex
        rw [List.append_assoc]
        rw [slc_own_eq, get_app]
        rfl
      obtain ⟨c', rfl, hdc'⟩ := hN2.da
      have lc7 := hdc'.len
      have lca := hdc'.all
      simp (disch:=first|assumption|omega|(simp only [lens];omega)) only [eqs,↓gvd_succ,↓gvd_zero,↓and_of,im_of,im_of trivial,vlt,hP,hst,initS,Nat.reduceBEq,Nat.reduceAdd,Nat.reduceMul,Nat.reduceSub,Nat.reduceDiv,Nat.reduceMod,Nat.reducePow,Nat.reduceLT,Nat.reduceLeDiff,Nat.reduceEqDiff,Int.reduceAdd,Int.reduceSub,Int.reduceNeg,Int.reduceMul,Int.reduceToNat,Int.reducePow,Int.reduceLE,Int.reduceLT,Int.reduceEq,Int.reduceNe,reduceIte,reduceCtorEq,ne_eq,not_true_eq_false,not_false_eq_true,imp_self,implies_true,bls,eq_self,hZP]
      refine F_appD hA2 hZX6 (m := 1) (ys := [.val (.int .i64 0), .val (.bool false), .val (.slice none 0 0), .val (.bool false), .val (.string ⟨#[]⟩), .val (.slice none 0 0), .val (.slice none 0 0)]) hsz rfl rfl (by omega) (by omega) fun q T' co' h1 h2 h3' h4 h5 h6 h7 => ?_
      have h4' : co' = co := by
        obtain ⟨z, hz⟩ := eT
        have h4'' := sl_grow hco z
        rw [← hz] at h4''
        rw [h4''] at h4
        cases h4
        rfl
      subst h4'
      have h3 : T'.take (st.length + 6) = T2.take (st.length + 6) := by exact h3'
      have b2 : T'[st.length + 2]? = some (some [.val (.int .i64 5), .val (.bool false), .val (.slice none 0 0), .val (.bool false), .val (.string ⟨#[]⟩), o, .val (.slice none 0 0)]) := by
        rw [take_get h3 (by omega), List.getElem?_take, if_pos (by omega)]
        obtain ⟨z, rfl⟩ := eT
        rw [List.getElem?_append_left hlt2]; exact g2
      have bq := h5
      have hqX : Z.st1.length ≤ q := by have := eT.len; omega
      have hq0 : q ≠ st.length + 2 := by have := eT.len; omega
      have hq1 : st.length + 2 ≠ q := by have := eT.len; omega
      have e1 : List.take (ds.length * 7) (co' ++ ([.val (.int .i64 0), .val (.bool false), .val (.slice none 0 0), .val (.bool false), .val (.string ⟨#[]⟩), .val (.slice none 0 0), .val (.slice none 0 0)] : List AV)) = co' := by rw [← h6]; exact List.take_left
      have e3 : List.drop (ds.length * 7 + 7) (co' ++ ([.val (.int .i64 0), .val (.bool false), .val (.slice none 0 0), .val (.bool false), .val (.string ⟨#[]⟩), .val (.slice none 0 0), .val (.slice none 0 0)] : List AV)) = [] := List.drop_eq_nil_of_le (by simp [h6])
      have e4 : ds.length * 7 + 7 ≤ (co' ++ ([.val (.int .i64 0), .val (.bool false), .val (.slice none 0 0), .val (.bool false), .val (.string ⟨#[]⟩), .val (.slice none 0 0), .val (.slice none 0 0)] : List AV)).length := by simp [h6]
      simp (disch:=first|assumption|omega|(simp only [lens];omega)) only [eqs,↓gvd_succ,↓gvd_zero,↓and_of,im_of,im_of trivial,vlt,hP,hst,initS,Nat.reduceBEq,Nat.reduceAdd,Nat.reduceMul,Nat.reduceSub,Nat.reduceDiv,Nat.reduceMod,Nat.reducePow,Nat.reduceLT,Nat.reduceLeDiff,Nat.reduceEqDiff,Int.reduceAdd,Int.reduceSub,Int.reduceNeg,Int.reduceMul,Int.reduceToNat,Int.reducePow,Int.reduceLE,Int.reduceLT,Int.reduceEq,Int.reduceNe,reduceIte,reduceCtorEq,ne_eq,not_true_eq_false,not_false_eq_true,imp_self,implies_true,bls,eq_self,hZP]
      refine RN_alt rfl (.cons rfl <| .nil) ?_ ?_
      · simp (disch:=first|assumption|omega|(simp only [lens];omega)) only [eqs,↓gvd_succ,↓gvd_zero,↓and_of,im_of,im_of trivial,vlt,hP,hst,initS,Nat.reduceBEq,Nat.reduceAdd,Nat.reduceMul,Nat.reduceSub,Nat.reduceDiv,Nat.reduceMod,Nat.reducePow,Nat.reduceLT,Nat.reduceLeDiff,Nat.reduceEqDiff,Int.reduceAdd,Int.reduceSub,Int.reduceNeg,Int.reduceMul,Int.reduceToNat,Int.reducePow,Int.reduceLE,Int.reduceLT,Int.reduceEq,Int.reduceNe,reduceIte,reduceCtorEq,ne_eq,not_true_eq_false,not_false_eq_true,imp_self,implies_true,bls,eq_self,hZP,b2,bq,hZX6,hZX,lo,lc7,lca,List.append_nil,RN_fin,hqX,hq0,hq1,List.getElem?_set_ne,e1,e3,e4]
        refine RN_alt rfl (.cons rfl <| .cons rfl <| .cons rfl <| .nil) ?_ ?_
        · simp (disch:=first|assumption|omega|(simp only [lens];omega)) only [eqs,↓gvd_succ,↓gvd_zero,↓and_of,im_of,im_of trivial,vlt,hP,hst,initS,Nat.reduceBEq,Nat.reduceAdd,Nat.reduceMul,Nat.reduceSub,Nat.reduceDiv,Nat.reduceMod,Nat.reducePow,Nat.reduceLT,Nat.reduceLeDiff,Nat.reduceEqDiff,Int.reduceAdd,Int.reduceSub,Int.reduceNeg,Int.reduceMul,Int.reduceToNat,Int.reducePow,Int.reduceLE,Int.reduceLT,Int.reduceEq,Int.reduceNe,reduceIte,reduceCtorEq,ne_eq,not_true_eq_false,not_false_eq_true,imp_self,implies_true,bls,eq_self,hZP,b2,bq,hZX6,hZX,lo,lc7,lca,List.append_nil,RN_fin,hqX,hq0,hq1,List.getElem?_set_ne,e1,e3,e4]
          exact fin T2 T' q c' eT hA2 hF2 h1 h2 h3 h7 _
        · skip
          refine RN_alt rfl (.cons rfl <| .nil) ?_ RN_end
          simp (disch:=first|assumption|omega|(simp only [lens];omega)) only [eqs,↓gvd_succ,↓gvd_zero,↓and_of,im_of,im_of trivial,vlt,hP,hst,initS,Nat.reduceBEq,Nat.reduceAdd,Nat.reduceMul,Nat.reduceSub,Nat.reduceDiv,Nat.reduceMod,Nat.reducePow,Nat.reduceLT,Nat.reduceLeDiff,Nat.reduceEqDiff,Int.reduceAdd,Int.reduceSub,Int.reduceNeg,Int.reduceMul,Int.reduceToNat,Int.reducePow,Int.reduceLE,Int.reduceLT,Int.reduceEq,Int.reduceNe,reduceIte,reduceCtorEq,ne_eq,not_true_eq_false,not_false_eq_true,imp_self,implies_true,bls,eq_self,hZP,b2,bq,hZX6,hZX,lo,lc7,lca,List.append_nil,RN_fin,hqX,hq0,hq1,List.getElem?_set_ne,e1,e3,e4]
          refine RN_alt rfl (.cons rfl <| .cons rfl <| .nil) ?_ ?_
          · simp (disch:=first|assumption|omega|(simp only [lens];omega)) only [eqs,↓gvd_succ,↓gvd_zero,↓and_of,im_of,im_of trivial,vlt,hP,hst,initS,Nat.reduceBEq,Nat.reduceAdd,Nat.reduceMul,Nat.reduceSub,Nat.reduceDiv,Nat.reduceMod,Nat.reducePow,Nat.reduceLT,Nat.reduceLeDiff,Nat.reduceEqDiff,Int.reduceAdd,Int.reduceSub,Int.reduceNeg,Int.reduceMul,Int.reduceToNat,Int.reducePow,Int.reduceLE,Int.reduceLT,Int.reduceEq,Int.reduceNe,reduceIte,reduceCtorEq,ne_eq,not_true_eq_false,not_false_eq_true,imp_self,implies_true,bls,eq_self,hZP,b2,bq,hZX6,hZX,lo,lc7,lca,List.append_nil,RN_fin,hqX,hq0,hq1,List.getElem?_set_ne,e1,e3,e4]
            exact fin T2 T' q c' eT hA2 hF2 h1 h2 h3 h7 _
          · skip
            refine RN_alt rfl (.cons rfl <| .cons rfl <| .nil) ?_ RN_end
            simp (disch:=first|assumption|omega|(simp only [lens];omega)) only [eqs,↓gvd_succ,↓gvd_zero,↓and_of,im_of,im_of trivial,vlt,hP,hst,initS,Nat.reduceBEq,Nat.reduceAdd,Nat.reduceMul,Nat.reduceSub,Nat.reduceDiv,Nat.reduceMod,Nat.reducePow,Nat.reduceLT,Nat.reduceLeDiff,Nat.reduceEqDiff,Int.reduceAdd,Int.reduceSub,Int.reduceNeg,Int.reduceMul,Int.reduceToNat,Int.reducePow,Int.reduceLE,Int.reduceLT,Int.reduceEq,Int.reduceNe,reduceIte,reduceCtorEq,ne_eq,not_true_eq_false,not_false_eq_true,imp_self,implies_true,bls,eq_self,hZP,b2,bq,hZX6,hZX,lo,lc7,lca,List.append_nil,RN_fin,hqX,hq0,hq1,List.getElem?_set_ne,e1,e3,e4]
            rw [List.set_comm _ _ (by omega)]; exact fin T2 T' q c' eT hA2 hF2 h1 h2 h3 h7 _
      · skip
        refine RN_alt rfl (.cons rfl <| .nil) ?_ RN_end
        simp (disch:=first|assumption|omega|(simp only [lens];omega)) only [eqs,↓gvd_succ,↓gvd_zero,↓and_of,im_of,im_of trivial,vlt,hP,hst,initS,Nat.reduceBEq,Nat.reduceAdd,Nat.reduceMul,Nat.reduceSub,Nat.reduceDiv,Nat.reduceMod,Nat.reducePow,Nat.reduceLT,Nat.reduceLeDiff,Nat.reduceEqDiff,Int.reduceAdd,Int.reduceSub,Int.reduceNeg,Int.reduceMul,Int.reduceToNat,Int.reducePow,Int.reduceLE,Int.reduceLT,Int.reduceEq,Int.reduceNe,reduceIte,reduceCtorEq,ne_eq,not_true_eq_false,not_false_eq_true,imp_self,implies_true,bls,eq_self,hZP,b2,bq,hZX6,hZX,lo,lc7,lca,List.append_nil,RN_fin,hqX,hq0,hq1,List.getElem?_set_ne,e1,e3,e4]
        refine RN_alt rfl (.cons rfl <| .nil) ?_ ?_
        · simp (disch:=first|assumption|omega|(simp only [lens];omega)) only [eqs,↓gvd_succ,↓gvd_zero,↓and_of,im_of,im_of trivial,vlt,hP,hst,initS,Nat.reduceBEq,Nat.reduceAdd,Nat.reduceMul,Nat.reduceSub,Nat.reduceDiv,Nat.reduceMod,Nat.reducePow,Nat.reduceLT,Nat.reduceLeDiff,Nat.reduceEqDiff,Int.reduceAdd,Int.reduceSub,Int.reduceNeg,Int.reduceMul,Int.reduceToNat,Int.reducePow,Int.reduceLE,Int.reduceLT,Int.reduceEq,Int.reduceNe,reduceIte,reduceCtorEq,ne_eq,not_true_eq_false,not_false_eq_true,imp_self,implies_true,bls,eq_self,hZP,b2,bq,hZX6,hZX,lo,lc7,lca,List.append_nil,RN_fin,hqX,hq0,hq1,List.getElem?_set_ne,e1,e3,e4]
          refine RN_alt rfl (.cons rfl <| .cons rfl <| .nil) ?_ ?_
          · simp (disch:=first|assumption|omega|(simp only [lens];omega)) only [eqs,↓gvd_succ,↓gvd_zero,↓and_of,im_of,im_of trivial,vlt,hP,hst,initS,Nat.reduceBEq,Nat.reduceAdd,Nat.reduceMul,Nat.reduceSub,Nat.reduceDiv,Nat.reduceMod,Nat.reducePow,Nat.reduceLT,Nat.reduceLeDiff,Nat.reduceEqDiff,Int.reduceAdd,Int.reduceSub,Int.reduceNeg,Int.reduceMul,Int.reduceToNat,Int.reducePow,Int.reduceLE,Int.reduceLT,Int.reduceEq,Int.reduceNe,reduceIte,reduceCtorEq,ne_eq,not_true_eq_false,not_false_eq_true,imp_self,implies_true,bls,eq_self,hZP,b2,bq,hZX6,hZX,lo,lc7,lca,List.append_nil,RN_fin,hqX,hq0,hq1,List.getElem?_set_ne,e1,e3,e4]
            exact fin T2 T' q c' eT hA2 hF2 h1 h2 h3 h7 _
          · skip
            refine RN_alt rfl (.cons rfl <| .cons rfl <| .nil) ?_ RN_end
            simp (disch:=first|assumption|omega|(simp only [lens];omega)) only [eqs,↓gvd_succ,↓gvd_zero,↓and_of,im_of,im_of trivial,vlt,hP,hst,initS,Nat.reduceBEq,Nat.reduceAdd,Nat.reduceMul,Nat.reduceSub,Nat.reduceDiv,Nat.reduceMod,Nat.reducePow,Nat.reduceLT,Nat.reduceLeDiff,Nat.reduceEqDiff,Int.reduceAdd,Int.reduceSub,Int.reduceNeg,Int.reduceMul,Int.reduceToNat,Int.reducePow,Int.reduceLE,Int.reduceLT,Int.reduceEq,Int.reduceNe,reduceIte,reduceCtorEq,ne_eq,not_true_eq_false,not_false_eq_true,imp_self,implies_true,bls,eq_self,hZP,b2,bq,hZX6,hZX,lo,lc7,lca,List.append_nil,RN_fin,hqX,hq0,hq1,List.getElem?_set_ne,e1,e3,e4]
            rw [List.set_comm _ _ (by omega)]; exact fin T2 T' q c' eT hA2 hF2 h1 h2 h3 h7 _
        · skip
          refine RN_alt rfl (.cons rfl <| .cons rfl <| .cons rfl <| .nil) ?_ RN_end
          simp (disch:=first|assumption|omega|(simp only [lens];omega)) only [eqs,↓gvd_succ,↓gvd_zero,↓and_of,im_of,im_of trivial,vlt,hP,hst,initS,Nat.reduceBEq,Nat.reduceAdd,Nat.reduceMul,Nat.reduceSub,Nat.reduceDiv,Nat.reduceMod,Nat.reducePow,Nat.reduceLT,Nat.reduceLeDiff,Nat.reduceEqDiff,Int.reduceAdd,Int.reduceSub,Int.reduceNeg,Int.reduceMul,Int.reduceToNat,Int.reducePow,Int.reduceLE,Int.reduceLT,Int.reduceEq,Int.reduceNe,reduceIte,reduceCtorEq,ne_eq,not_true_eq_false,not_false_eq_true,imp_self,implies_true,bls,eq_self,hZP,b2,bq,hZX6,hZX,lo,lc7,lca,List.append_nil,RN_fin,hqX,hq0,hq1,List.getElem?_set_ne,e1,e3,e4]
          rw [List.set_comm _ _ (by omega)]; exact fin T2 T' q c' eT hA2 hF2 h1 h2 h3 h7 _
  · rintro T ⟨h1, o, h2, h3⟩
    rw [List.take_length] at h3
    have g0 := (take_get (i := st.length) h2 (by omega)).trans (by rw [get_app0])
    have g1 := (take_get (i := st.length + 1) h2 (by omega)).trans (by rw [get_app])
    have g2 := (take_get (i := st.length + 2) h2 (by omega)).trans (by rw [get_app])
    have lo := h3.dS.leaf
    obtain ⟨z, hz⟩ := take_ext h2
    have hyT : DS T y tls := by rw [hz, List.append_assoc]; exact hy.ext (.add _)
    obtain ⟨cst, hst', hdt, hct⟩ := hyT.inv
    have htl := szs_len (ds := tls)
    have hX6 : X.st1.length ≤ st.length + 6 := by omega
    have htk : T.take st.length = st := by
      have := congrArg (List.take st.length) h2
      rw [List.take_take, Nat.min_eq_left (by omega), List.take_left] at this
      exact this
    simp (disch:=first|assumption|omega|(simp only [lens];omega)) only [eqs,↓gvd_succ,↓gvd_zero,↓and_of,im_of,im_of trivial,vlt,hP,hst,initS,Nat.reduceBEq,Nat.reduceAdd,Nat.reduceMul,Nat.reduceSub,Nat.reduceDiv,Nat.reduceMod,Nat.reducePow,Nat.reduceLT,Nat.reduceLeDiff,Nat.reduceEqDiff,Int.reduceAdd,Int.reduceSub,Int.reduceNeg,Int.reduceMul,Int.reduceToNat,Int.reducePow,Int.reduceLE,Int.reduceLT,Int.reduceEq,Int.reduceNe,reduceIte,reduceCtorEq,ne_eq,not_true_eq_false,not_false_eq_true,imp_self,implies_true,bls,eq_self,g0,g1,g2,lo,ly,hst']
    refine C_dec (fun h6 => ?_) (fun h6 => ?_)
    rotate_left
    · have h6 : tls = [] := by
        cases tls with
        | nil => rfl
        | cons t ts => simp at h6
      subst h6
      simp (disch:=first|assumption|omega|(simp only [lens];omega)) only [eqs,↓gvd_succ,↓gvd_zero,↓and_of,im_of,im_of trivial,vlt,hP,hst,initS,Nat.reduceBEq,Nat.reduceAdd,Nat.reduceMul,Nat.reduceSub,Nat.reduceDiv,Nat.reduceMod,Nat.reducePow,Nat.reduceLT,Nat.reduceLeDiff,Nat.reduceEqDiff,Int.reduceAdd,Int.reduceSub,Int.reduceNeg,Int.reduceMul,Int.reduceToNat,Int.reducePow,Int.reduceLE,Int.reduceLT,Int.reduceEq,Int.reduceNe,reduceIte,reduceCtorEq,ne_eq,not_true_eq_false,not_false_eq_true,imp_self,implies_true,bls,eq_self,g0,g1,g2,lo,ly,hX1,hX2]
      have h7 := h3.low (i := st.length + 1) (y := some [.val (.int .i64 5), .val (.bool false), .val (.slice none 0 0), .val (.bool false), .val (.string ⟨#[]⟩), o, .val (.slice none 0 0)]) (by omega)
      refine hK _ _ (New.of_fine (n1 := st.length + 6) (by rw [List.take_set_of_le (by omega)]; exact htk) (by omega) (by simp; omega) fun B hB => DA.mk' Nm.nil (h7.1.fineDS B hB) DS.nil)
    · obtain ⟨cs0, c, e, hsl', hcl', hc, hc7, hca, he, hec, hb1, hb2⟩ := hyT.at (i := 0) (by omega)
      rw [hst'] at hsl'
      cases hsl'
      have t7 := List.take_of_length_le (Nat.le_of_eq hc7)
      have hes := szs_mem (List.mem_of_getElem? he)
      have hef := fits_mem hfit.2.2 (List.mem_of_getElem? he)
      have hni := nrm_its e
      have hc0 : List.take 7 cst = c := by simpa using hc
      simp (disch:=first|assumption|omega|(simp only [lens];omega)) only [eqs,↓gvd_succ,↓gvd_zero,↓and_of,im_of,im_of trivial,vlt,hP,hst,initS,Nat.reduceBEq,Nat.reduceAdd,Nat.reduceMul,Nat.reduceSub,Nat.reduceDiv,Nat.reduceMod,Nat.reducePow,Nat.reduceLT,Nat.reduceLeDiff,Nat.reduceEqDiff,Int.reduceAdd,Int.reduceSub,Int.reduceNeg,Int.reduceMul,Int.reduceToNat,Int.reducePow,Int.reduceLE,Int.reduceLT,Int.reduceEq,Int.reduceNe,reduceIte,reduceCtorEq,ne_eq,not_true_eq_false,not_false_eq_true,imp_self,implies_true,bls,eq_self]
      refine V_hard [0, 1, 2, 3, 4, 5, 6] [7, 8] (by kernel_rfl) (.cons rfl <| .cons rfl <| .cons rfl <| .cons rfl <| .cons rfl <| .cons rfl <| .cons rfl <| .nil) (.cons rfl <| .cons rfl <| .nil) fun F hF => ?_
      simp (disch:=first|assumption|omega|(simp only [lens];omega)) only [eqs,↓gvd_succ,↓gvd_zero,↓and_of,im_of,im_of trivial,vlt,hP,hst,initS,Nat.reduceBEq,Nat.reduceAdd,Nat.reduceMul,Nat.reduceSub,Nat.reduceDiv,Nat.reduceMod,Nat.reducePow,Nat.reduceLT,Nat.reduceLeDiff,Nat.reduceEqDiff,Int.reduceAdd,Int.reduceSub,Int.reduceNeg,Int.reduceMul,Int.reduceToNat,Int.reducePow,Int.reduceLE,Int.reduceLT,Int.reduceEq,Int.reduceNe,reduceIte,reduceCtorEq,ne_eq,not_true_eq_false,not_false_eq_true,imp_self,implies_true,bls,eq_self,g0,g1,g2,lo,ly,hst',hca,hc7,t7,hc0,hb1,hb2]
      refine E_call (hP ▸ ih) ⟨_, e, rfl, ⟨c, rfl, hec⟩, by omega, by omega, hef, fun x' T2 hN2 => ?_⟩
      simp (disch:=first|assumption|omega|(simp only [lens];omega)) only [eqs,↓gvd_succ,↓gvd_zero,↓and_of,im_of,im_of trivial,vlt,hP,hst,initS,Nat.reduceBEq,Nat.reduceAdd,Nat.reduceMul,Nat.reduceSub,Nat.reduceDiv,Nat.reduceMod,Nat.reducePow,Nat.reduceLT,Nat.reduceLeDiff,Nat.reduceEqDiff,Int.reduceAdd,Int.reduceSub,Int.reduceNeg,Int.reduceMul,Int.reduceToNat,Int.reducePow,Int.reduceLE,Int.reduceLT,Int.reduceEq,Int.reduceNe,reduceIte,reduceCtorEq,ne_eq,not_true_eq_false,not_false_eq_true,imp_self,implies_true,bls,eq_self]
      rw [hF]
      simp (disch:=first|assumption|omega|(simp only [lens];omega)) only [eqs,↓gvd_succ,↓gvd_zero,↓and_of,im_of,im_of trivial,vlt,hP,hst,initS,Nat.reduceBEq,Nat.reduceAdd,Nat.reduceMul,Nat.reduceSub,Nat.reduceDiv,Nat.reduceMod,Nat.reducePow,Nat.reduceLT,Nat.reduceLeDiff,Nat.reduceEqDiff,Int.reduceAdd,Int.reduceSub,Int.reduceNeg,Int.reduceMul,Int.reduceToNat,Int.reducePow,Int.reduceLE,Int.reduceLT,Int.reduceEq,Int.reduceNe,reduceIte,reduceCtorEq,ne_eq,not_true_eq_false,not_false_eq_true,imp_self,implies_true,bls,eq_self]
      refine E_callW (s_joined hP) ⟨st.length + 6, o, x', its.map nrm, nrm e, rfl, ?_, hX6, hN2.fine h3, by simp; omega, fun x2 T3 q1 q2 q3 => ?_⟩
      · obtain ⟨z2, rfl⟩ := hN2.ex
        exact h3.ext _
      obtain ⟨c2, rfl, hdc2⟩ := q3.da mono_DA q2
      have hc27 := hdc2.len
      have hc2a := hdc2.all
      obtain ⟨z2, rfl⟩ := hN2.ex
      rw [List.take_append_of_le_length h1] at q1
      have b1 := (take_get (i := st.length + 1) (q1.trans h2) (by omega)).trans (by rw [get_app])
      have b7 := List.take_of_length_le (Nat.le_of_eq hc27)
      simp (disch:=first|assumption|omega|(simp only [lens];omega)) only [eqs,↓gvd_succ,↓gvd_zero,↓and_of,im_of,im_of trivial,vlt,hP,hst,initS,Nat.reduceBEq,Nat.reduceAdd,Nat.reduceMul,Nat.reduceSub,Nat.reduceDiv,Nat.reduceMod,Nat.reducePow,Nat.reduceLT,Nat.reduceLeDiff,Nat.reduceEqDiff,Int.reduceAdd,Int.reduceSub,Int.reduceNeg,Int.reduceMul,Int.reduceToNat,Int.reducePow,Int.reduceLE,Int.reduceLT,Int.reduceEq,Int.reduceNe,reduceIte,reduceCtorEq,ne_eq,not_true_eq_false,not_false_eq_true,imp_self,implies_true,bls,eq_self,b1,hc27,hc2a,hX1,b7,take7 hc27,zD7,List.append_nil]
      cases tls with
      | nil => simp at he
      | cons t ts =>
      simp only [List.getElem?_cons_zero, Option.some.injEq] at he
      subst he
      refine hK _ _ (New.of_fine (n1 := st.length + 6) ?_ (by omega) (by simp; omega) fun B hB => ?_)
      · rw [List.take_set_of_le (by omega)]
        have := congrArg (List.take st.length) q1
        rw [List.take_take, List.take_take, Nat.min_eq_left (by omega)] at this
        rw [this]
        exact htk
      · have := q3 B hB
        unfold mask at this ⊢
        simp only at this ⊢
        rw [drop_set_lt (by omega)]
        exact this
end Go.Proofs.Pv
