/- The engine's fourteenth part: what is left over of a call is swept away; drawn regions by a list; numbers in rows. -/
import Derived.Test.YtdaidpomfkgbeaaE13
set_option linter.unusedSimpArgs false
set_option linter.unusedVariables false
namespace Go.Proofs.Pv
open Go Go.RowKit

def plain (cs : List AV) : Prop := ∀ c ∈ cs, ∃ v, c = .val v

mutual
/-- A value with the new objects numbered anew: number L[i] becomes i. -/
inductive Mv (st : St) (L : List Nat) : AV → AV → Prop
  | val (v : Value) : Mv st L (.val v) (.val v)
  | old {sz n : Nat} {x : AV} {cs : List AV} (h : sl sz st x = some (n, cs)) (hp : plain cs) : Mv st L x x
  | new {i r off n sz : Nat} (h : L[i]? = some r) : Mv st L (.own (st.length + r) off n sz) (.own (st.length + i) off n sz)
  | agg {xs ys : List AV} (h : Mvs st L xs ys) : Mv st L (.agg xs) (.agg ys)
  | tup {xs ys : List AV} (h : Mvs st L xs ys) : Mv st L (.tup xs) (.tup ys)
inductive Mvs (st : St) (L : List Nat) : List AV → List AV → Prop
  | nil : Mvs st L [] []
  | cons {x y : AV} {xs ys : List AV} (h : Mv st L x y) (hs : Mvs st L xs ys) : Mvs st L (x :: xs) (y :: ys)
end

section
variable {w0 : World} {β ex : Bk} {st : St} {L : List Nat}

def sweep (L : List Nat) (ex : Bk) : Bk := L.map fun r => (ex[r]?).getD none

theorem sweep_get (hL : ∀ r ∈ L, r < ex.length) {i r : Nat} (h : L[i]? = some r) : (sweep L ex)[i]? = ex[r]? := by
  have hr := hL r (List.mem_of_getElem? h)
  simp [sweep, h, hr]

mutual
theorem Mv.rel (hlen : β.length = st.length) (hL : ∀ r ∈ L, r < ex.length) {x y : AV} : Mv st L x y → ∀ v, VRel w0 (β ++ ex) v x → VRel w0 (β ++ sweep L ex) v y
  | .val v, u, h => by cases h; exact .val v
  | .old (n := n) (cs := cs) h hp, v, hv => by
    rcases sl_cases h with ⟨rfl, hl⟩ | ⟨r, off, c, rfl, hc, hd, hl⟩ | ⟨rfl, rfl, rfl⟩
    · cases hv with
      | im u hn hc hr hv =>
        refine .im u hn hc hr fun j x hx => ?_
        obtain ⟨z, rfl⟩ := hp x (List.mem_of_getElem? hx)
        rw [inv_val (hv j _ hx)]; exact .val z
    · have hr : r < β.length := by rw [hlen]; exact (List.getElem?_eq_some_iff.1 hc).1
      have e : ∀ z : Bk, (β ++ z)[r]? = β[r]? := fun z => List.getElem?_append_left hr
      cases hv with
      | own hb hn hc ho => rw [e] at hb; exact .own (by rw [e]; exact hb) hn hc ho
      | nil hb => rw [e] at hb; exact .nil (by rw [e]; exact hb)
    · cases hv; exact .val _
  | .new (i := i) (r := r) h, v, hv => by
    have e1 : (β ++ ex)[st.length + r]? = ex[r]? := by rw [← hlen, List.getElem?_append_right (by omega), Nat.add_sub_cancel_left]
    have e2 : (β ++ sweep L ex)[st.length + i]? = ex[r]? := by rw [← hlen, List.getElem?_append_right (by omega), Nat.add_sub_cancel_left, sweep_get hL h]
    cases hv with
    | own hb hn hc ho => rw [e1] at hb; exact .own (by rw [e2]; exact hb) hn hc ho
    | nil hb => rw [e1] at hb; exact .nil (by rw [e2]; exact hb)
  | .agg h, v, hv => by
    cases hv with
    | agg hs hv =>
      obtain ⟨h1, h2⟩ := Mvs.rel hlen hL h
      refine .agg (hs.trans h1) fun j u y hu hy => ?_
      have hj : j < _ := (List.getElem?_eq_some_iff.1 hy).1
      rw [← h1] at hj
      exact h2 j _ y (List.getElem?_eq_getElem hj) hy u (hv j u _ hu (List.getElem?_eq_getElem hj))
  | .tup h, v, hv => by
    cases hv with
    | tup hs hv =>
      obtain ⟨h1, h2⟩ := Mvs.rel hlen hL h
      refine .tup (hs.trans h1) fun j u y hu hy => ?_
      have hj : j < _ := (List.getElem?_eq_some_iff.1 hy).1
      rw [← h1] at hj
      exact h2 j _ y (List.getElem?_eq_getElem hj) hy u (hv j u _ hu (List.getElem?_eq_getElem hj))
theorem Mvs.rel (hlen : β.length = st.length) (hL : ∀ r ∈ L, r < ex.length) {xs ys : List AV} : Mvs st L xs ys → xs.length = ys.length ∧ ∀ (j : Nat) x y, xs[j]? = some x → ys[j]? = some y → ∀ v, VRel w0 (β ++ ex) v x → VRel w0 (β ++ sweep L ex) v y
  | .nil => ⟨rfl, fun j x y hx => by cases hx⟩
  | .cons h hs => by
    obtain ⟨h1, h2⟩ := Mvs.rel hlen hL hs
    refine ⟨by simp [h1], fun j x y hx hy v hv => ?_⟩
    cases j with
    | zero => cases hx; cases hy; exact Mv.rel hlen hL h v hv
    | succ j => exact h2 j x y hx hy v hv
end

/-- Of the new objects only L's are kept. -/
theorem Inv.sweep {P : Program} {w w' : World} {y : St} (hI : Inv ⟨P, w0, w, st, β⟩ β st w) (h : Inv ⟨P, w0, w, st, β⟩ (β ++ ex) (st ++ y) w') (hn : L.Nodup) (zs : List (List AV)) (hz : L.map (fun r => y[r]?) = zs.map fun z => some (some z)) (hp : ∀ z ∈ zs, plain z) :
    (∀ r ∈ L, r < ex.length) ∧ Inv ⟨P, w0, w, st, β⟩ (β ++ Pv.sweep L ex) (st ++ zs.map some) w' := by
  have hlen := hI.len
  have hl2 : ex.length = y.length := by have := h.len; simp only [List.length_append] at this; omega
  have hzl : L.length = zs.length := by have := congrArg List.length hz; simpa using this
  have hzi : ∀ (i : Nat) r, L[i]? = some r → ∃ z, zs[i]? = some z ∧ y[r]? = some (some z) ∧ plain z := by
    intro i r hr
    have := congrArg (fun l => l[i]?) hz
    simp only [List.getElem?_map, hr, Option.map_some] at this
    cases hzz : zs[i]? with
    | none => simp [hzz] at this
    | some z => simp only [hzz, Option.map_some, Option.some.injEq] at this; exact ⟨z, rfl, this, hp z (List.mem_of_getElem? hzz)⟩
  have hL : ∀ r ∈ L, r < ex.length := by
    intro r hr
    obtain ⟨i, hi⟩ := List.mem_iff_getElem?.1 hr
    obtain ⟨z, _, h2, _⟩ := hzi i r hi
    rw [hl2]; exact (List.getElem?_eq_some_iff.1 h2).1
  have hI' := hI.grow_below h.b1
  have hsw : (Pv.sweep L ex).length = L.length := by simp [Pv.sweep]
  -- where a number comes from
  have src : ∀ r bk, (β ++ Pv.sweep L ex)[r]? = some bk → (r < st.length ∧ β[r]? = some bk) ∨ (∃ i q, r = st.length + i ∧ L[i]? = some q ∧ (β ++ ex)[st.length + q]? = some bk) := by
    intro r bk hr
    by_cases hlt : r < β.length
    · rw [List.getElem?_append_left hlt] at hr; exact .inl ⟨by omega, hr⟩
    · rw [List.getElem?_append_right (by omega)] at hr
      have hi : r - β.length < L.length := by rw [← hsw]; exact (List.getElem?_eq_some_iff.1 hr).1
      refine .inr ⟨r - β.length, L[r - β.length], by omega, List.getElem?_eq_getElem hi, ?_⟩
      rw [sweep_get hL (List.getElem?_eq_getElem hi)] at hr
      rw [← hlen, List.getElem?_append_right (by omega), Nat.add_sub_cancel_left]; exact hr
  have osrc : ∀ r cs, (st ++ zs.map some)[r]? = some (some cs) → (r < st.length ∧ st[r]? = some (some cs)) ∨ (∃ i q, r = st.length + i ∧ L[i]? = some q ∧ (st ++ y)[st.length + q]? = some (some cs) ∧ plain cs) := by
    intro r cs hr
    by_cases hlt : r < st.length
    · rw [List.getElem?_append_left hlt] at hr; exact .inl ⟨hlt, hr⟩
    · rw [List.getElem?_append_right (by omega), List.getElem?_map] at hr
      cases hzz : zs[r - st.length]? with
      | none => simp [hzz] at hr
      | some z =>
        simp only [hzz, Option.map_some, Option.some.injEq] at hr
        subst hr
        have hi : r - st.length < L.length := by rw [hzl]; exact (List.getElem?_eq_some_iff.1 hzz).1
        obtain ⟨z', q1, q2, q3⟩ := hzi _ _ (List.getElem?_eq_getElem hi)
        rw [hzz] at q1; cases q1
        refine .inr ⟨r - st.length, L[r - st.length], by omega, List.getElem?_eq_getElem hi, ?_, q3⟩
        rw [List.getElem?_append_right (by omega), Nat.add_sub_cancel_left]; exact q2
  refine ⟨hL, h.b0, h.b1, by simp [hsw, hlen, hzl], ⟨_, rfl⟩, ⟨_, rfl⟩, ?_, ?_, ?_, ?_⟩
  · intro r b m hr hb
    rcases src r _ hb with ⟨h1, _⟩ | ⟨i, q, _, _, h3⟩
    · simp only at hr; omega
    · exact h.nw _ b m (by simp) h3
  · intro r b m hb
    rcases src r _ hb with ⟨_, h1⟩ | ⟨i, q, _, _, h3⟩
    · exact hI'.ow r b m h1
    · exact h.ow _ b m h3
  · intro r cs hr
    rcases osrc r cs hr with ⟨h1, h2⟩ | ⟨i, q, rfl, h2, h3, h4⟩
    · obtain ⟨bk, q1, q2⟩ := hI'.obj r cs h2
      refine ⟨bk, by rw [List.getElem?_append_left (by omega)]; exact q1, ?_⟩
      cases bk with
      | none => exact q2
      | some p => obtain ⟨c, e, g1, g2, g3, g4⟩ := q2; exact ⟨c, e, g1, g2, g3, fun j x hx => let ⟨u, g5, g6⟩ := g4 j x hx; ⟨u, g5, g6.ext _⟩⟩
    · obtain ⟨bk, q1, q2⟩ := h.obj _ cs h3
      refine ⟨bk, ?_, ?_⟩
      · rw [← hlen, List.getElem?_append_right (by omega), Nat.add_sub_cancel_left, sweep_get hL h2]
        rw [← hlen, List.getElem?_append_right (by omega), Nat.add_sub_cancel_left] at q1; exact q1
      · cases bk with
        | none => exact q2
        | some p =>
          obtain ⟨c, e, g1, g2, g3, g4⟩ := q2
          refine ⟨c, e, g1, g2, g3, fun j x hx => ?_⟩
          obtain ⟨u, g5, g6⟩ := g4 j x hx
          obtain ⟨v, rfl⟩ := h4 x (List.mem_of_getElem? hx)
          exact ⟨u, g5, by rw [inv_val g6]; exact .val v⟩
  · intro r r' cs cs' b m m' h1 h2 h3 h4
    rcases osrc r cs h1 with ⟨a1, a2⟩ | ⟨i, q, rfl, a2, a3, _⟩ <;> rcases osrc r' cs' h2 with ⟨b1, b2⟩ | ⟨i', q', rfl, b2, b3, _⟩
    · rw [List.getElem?_append_left (by omega)] at h3 h4
      exact hI'.inj r r' cs cs' b m m' a2 b2 h3 h4
    · rw [List.getElem?_append_left (by omega)] at h3
      rw [← hlen, List.getElem?_append_right (by omega), Nat.add_sub_cancel_left, sweep_get hL b2] at h4
      have := h.inj r (st.length + q') cs cs' b m m' (by rw [List.getElem?_append_left a1]; exact a2) b3 (by rw [List.getElem?_append_left (by omega)]; exact h3) (by rw [← hlen, List.getElem?_append_right (by omega), Nat.add_sub_cancel_left]; exact h4)
      omega
    · rw [List.getElem?_append_left (by omega)] at h4
      rw [← hlen, List.getElem?_append_right (by omega), Nat.add_sub_cancel_left, sweep_get hL a2] at h3
      have := h.inj (st.length + q) r' cs cs' b m m' a3 (by rw [List.getElem?_append_left b1]; exact b2) (by rw [← hlen, List.getElem?_append_right (by omega), Nat.add_sub_cancel_left]; exact h3) (by rw [List.getElem?_append_left (by omega)]; exact h4)
      omega
    · rw [← hlen, List.getElem?_append_right (by omega), Nat.add_sub_cancel_left, sweep_get hL a2] at h3
      rw [← hlen, List.getElem?_append_right (by omega), Nat.add_sub_cancel_left, sweep_get hL b2] at h4
      have := h.inj (st.length + q) (st.length + q') cs cs' b m m' a3 b3 (by rw [← hlen, List.getElem?_append_right (by omega), Nat.add_sub_cancel_left]; exact h3) (by rw [← hlen, List.getElem?_append_right (by omega), Nat.add_sub_cancel_left]; exact h4)
      have hq : q = q' := by omega
      subst hq
      have hi1 := List.getElem?_eq_some_iff.1 a2
      have hi2 := List.getElem?_eq_some_iff.1 b2
      obtain ⟨l1, e1⟩ := hi1
      obtain ⟨l2, e2⟩ := hi2
      have hp := List.pairwise_iff_getElem.1 hn
      rcases Nat.lt_trichotomy i i' with hl | hl | hl
      · exact absurd (e1.trans e2.symm) (hp i i' l1 l2 hl)
      · rw [hl]
      · exact absurd (e2.trans e1.symm) (hp i' i l2 l1 hl)

/-- A contract whose new objects are swept. -/
theorem tidy {P : Program} {f : FuncId} {R0 R : List AV → St → (AV → St → Prop) → Prop} (h : PSpec P f R0)
    (hR : ∀ xs st K, R xs st K → R0 xs st fun x st' => ∃ (L : List Nat) (y : St) (zs : List (List AV)) (x' : AV), st' = st ++ y ∧ L.Nodup ∧ L.map (fun r => y[r]?) = zs.map (fun z => some (some z)) ∧ (∀ z ∈ zs, plain z) ∧ Mv st L x x' ∧ K x' (st ++ zs.map some)) : PSpec P f R := by
  refine ⟨h.1, fun w0 β st w vs xs K hI hv hr => (h.2 w0 β st w vs xs _ hI hv (hR _ _ _ hr)).mono ?_⟩
  rintro e w' ⟨v, x, ex, st', he, h1, h2, L, y, zs, x', rfl, hn, hz, hp, hm, hK⟩
  obtain ⟨hL, h3⟩ := hI.sweep h1 hn zs hz hp
  exact ⟨v, x', _, _, he, h3, hm.rel hI.len hL v h2, hK⟩
end

/-! ### Drawn regions by a list -/

inductive Pk (full : List Oper) : List Nat → List Oper → Prop
  | nil : Pk full [] []
  | cons {i : Nat} {o : Oper} {l : List Nat} {l' : List Oper} : full[i]? = some o → Pk full l l' → Pk full (i :: l) (o :: l')

theorem Pk.eq {full : List Oper} {l : List Nat} {l' : List Oper} (h : Pk full l l') : (l.filterMap fun i => full.toArray[i]?) = l' := by
  induction h with
  | nil => rfl
  | cons h _ ih => simp [h, ← ih]

def okR (ops : Array Oper) (l : List Nat) : Bool := soundM ops (ancs ops) && Region.noSelect ops && okS ops (ancs ops) l (start ops)

theorem V_draw {X : Cx} {k : List Fr} {Q : Post} {s : Sl} {st : St} {id : Nat} {l l' : List Oper} {u} (is : List Nat) (h : okR l.toArray is = true) (hp : Pk l is l') (hO : O true X l l' k Q () s st) : V X (.region id (List.toArray l) true) k Q u s st := by
  simp only [okR, Bool.and_eq_true] at h
  refine ⟨_, h.1.1, h.1.2, .inl ⟨is, h.2, ?_⟩⟩
  rw [hp.eq]
  exact hO

/-- A call of a function with a contract that may write. -/
theorem E_callW {X : Cx} {k : List Fr} {Q : Post} {s : Sl} {st : St} {full rest : List Oper} {dst : Option Nat} {u} {g : FuncId} {fs xs cs : List AV} {R : List AV → St → (AV → St → Prop) → Prop} (h : FSpec X g R) (hR : R (fs ++ xs ++ cs) st fun v st' => O false X full rest k Q () (putS dst v s) st') : E false X dst full rest k Q u s st (.call (.fn (.func g) fs cs) xs) :=
  ⟨R, h, hR⟩

/-! ### Numbers in rows -/

/-- A slice of numbers below 2 ^ 32. -/
structure Nm (st : St) (x : AV) (l : List Nat) : Prop where
  sl : sl 1 st x = some (l.length, u32s l)
  lt : ∀ n ∈ l, n < 4294967296

section
variable {st : St} {x : AV} {l : List Nat} {rest : List AV} {r : Nat}
theorem Nm.grow (h : Nm st x l) : ∀ y, Pv.sl 1 (st ++ y) x = some (l.length, u32s l) := fun y => sl_grow h.sl y
theorem Nm.leaf (h : Nm st x l) : leaf x = true := sl_leaf h.sl
theorem Nm.slc (h : Nm st x l) : slc st x = some (l.length, u32s l) := (sl_slc h.sl).1
theorem Nm.slcg (h : Nm st x l) : ∀ y, Pv.slc (st ++ y) x = some (l.length, u32s l) := fun y => (sl_slc (sl_grow h.sl y)).1
theorem Nm.app (h : Nm st x l) (y : St) : Nm (st ++ y) x l := ⟨h.grow y, h.lt⟩
theorem u32s_plain : plain (u32s l) := by
  intro c hc
  obtain ⟨n, _, rfl⟩ := List.mem_map.1 hc
  exact ⟨_, rfl⟩
theorem Nm.own (h : st[r]? = some (some (u32s l ++ rest))) (hl : ∀ n ∈ l, n < 4294967296) : Nm st (.own r 0 l.length 1) l :=
  ⟨by rw [sl_own_eq]; simp [h, u32s_pre, u32s_length], hl⟩
theorem Nm.nil : Nm st (.val (.slice none 0 0)) [] := ⟨rfl, by simp⟩
theorem Nm.im (hl : ∀ n ∈ l, n < 4294967296) : Nm st (.im l.length (u32s l)) l := ⟨by rw [sl_im_eq]; simp [u32s_length], hl⟩
theorem cutA_all {sz n : Nat} {cs : List AV} (h : Pv.sl sz st x = some (n, cs)) : cutA x 0 n sz = x := by
  rcases sl_cases h with ⟨rfl, hl⟩ | ⟨r, off, c, rfl, hc, hd, hl⟩ | ⟨rfl, rfl, rfl⟩
  · simp [cutA, ← hl]
  · simp [cutA]
  · rfl
theorem cutA_cutA {sz k m : Nat} (h : k ≤ m) : cutA (cutA x 0 m sz) 0 k sz = cutA x 0 k sz := by
  cases x with
  | im n cs => simp only [cutA, Nat.zero_mul, List.drop_zero, List.take_take]; rw [Nat.min_eq_left (Nat.mul_le_mul_right _ h)]
  | own r off n s => simp [cutA]
  | _ => rfl
theorem Nm.slcut (h : Nm st x l) {m : Nat} (hm : m ≤ l.length) : Pv.sl 1 st (cutA x 0 m 1) = some (m, u32s (l.take m)) := by
  rw [Pv.sl_cut h.sl (by omega)]; simp [u32s_take]
theorem Nm.cut0 (h : Nm st x l) {m : Nat} (hm : m ≤ l.length) : Nm st (cutA x 0 m 1) (l.take m) :=
  ⟨by rw [h.slcut hm]; simp [Nat.min_eq_left hm], fun n hn => h.lt n (List.mem_of_mem_take hn)⟩
theorem Nm.cut (h : Nm st x l) {a m : Nat} (hm : a + m ≤ l.length) : Nm st (cutA x a m 1) ((l.drop a).take m) := by
  refine ⟨?_, fun n hn => h.lt n (List.mem_of_mem_drop (List.mem_of_mem_take hn))⟩
  rw [Pv.sl_cut h.sl hm]
  simp [u32s_drop, u32s_take, Nat.min_eq_left (by omega : m ≤ l.length - a)]
end
end Go.Proofs.Pv
