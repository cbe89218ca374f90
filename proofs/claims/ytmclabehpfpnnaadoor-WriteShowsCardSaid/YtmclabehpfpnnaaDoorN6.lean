/- A range over a function: a round's walk. -/
import Derived.Test.YtmclabehpfpnnaaDoorN3
import Derived.RangeFuncIn
import Derived.RangeFuncRecord
import Derived.RangeFuncSeq
import Derived.OrdersIn
import Derived.RangeFuncBox
import Derived.RangeFuncLeaves
import Derived.Shelf.Abstract
import Derived.WalkKit
import Derived.OwnWalkIn
import Derived.TacticsInMore
import Derived.LoopNIn
import Derived.LoopIn
import Derived.Test.YtmclabehpfpnnaaDoorK0
set_option linter.unusedSimpArgs false
set_option linter.unusedVariables false
namespace Go.Proofs.Pv
open Go Go.RowKit Go.Proofs
set_option maxRecDepth 100000

def noDefer (o : Oper) : Bool := match o.op with
  | .defer _ => false
  | _ => true
section
variable {P : Program} {ops : Array Oper} {Q : Exit → Act → World → Prop} {l n : Nat}
theorem wpIn_of_wp {o : Oper} {a : Act} {w : World} {K : Act → World → Prop} (hd : noDefer o = true) (h : o.wp P a w K Q) : o.wpIn (Fence.wide.inRound l) n P a w K Q := by
  refine ⟨fun _ _ => trivial, ?_⟩
  rw [Oper.semAt_eq _ _ _ (fun c hc => by simp [noDefer, hc] at hd)]
  unfold Oper.wp at h
  generalize (execOp a.eval o).run P w = r at h ⊢
  cases r with
  | ok x w' =>
    cases x with
    | enter f args => exact ⟨fun h => by simp [Fence.wide, Fence.inRound] at h, callsIn_wide.2 h⟩
    | row r args =>
      refine ⟨fun h => by simp [Fence.wide, Fence.inRound] at h, fun c cs _ => ?_⟩
      obtain ⟨v, w', h1, h2⟩ := h c cs
      exact ⟨v, w', h1, stepsIn_wide.2 h2⟩
    | round => exact h.elim
    | _ => exact h
  | halt x w' => cases x <;> exact h
theorem wpOpsIn_of (hQ : ¬LetsOut Q) (hd : ops.all noDefer = true) : ∀ (L : List Nat) (a : Act) (w : World), wpOps P ops Q L a w → wpOpsIn (Fence.wide.inRound l) n P ops Q L a w
  | [], _, _, h => h
  | i :: L, a, w, h => by
    unfold wpOps at h
    unfold wpOpsIn
    cases ho : ops[i]? with
    | none => simp only [ho] at h ⊢; exact wpOpsIn_of hQ hd L a w h
    | some o =>
      simp only [ho] at h ⊢
      have hdo : noDefer o = true := Array.all_eq_true_iff_forall_mem.1 hd o (Array.mem_of_getElem? ho)
      split
      · rename_i hw
        rw [if_pos hw] at h
        rcases h with h | h
        · exact Oper.wpIn_mono (fun a w => wpOpsIn_of hQ hd L a w) (wpIn_of_wp hdo h)
        · exact absurd h.2 hQ
      · rename_i hw
        rw [if_neg hw] at h
        exact ⟨fun _ _ => trivial, wpOpsIn_of hQ hd L _ w h⟩
end
/-- A round's code: regions one behind the other. -/
def okRd : Code → Bool
  | .region _ ops _ => ops.all noDefer
  | .seq a b => okRd a && okRd b
  | .block _ c => okRd c
  | .skip => true
  | _ => false
section
variable {X : Cx} {N : Nat} {K : Sl → St → Prop} {ops : Array Oper}
theorem vcR_any (hm : X.P.follows .mixedOrders = true) (hd : ∀ o ∈ ops.toList, ∀ t, o.dst = some t → t < N) {β : Bk} {s : Sl} {st : St} {a : Act} {w : World} (hI : Inv X β st w) (hS : SRel X N β s a)
    (h : vcR X ops s st K) : wpAny X.P .any ops (fun e a w => e = .normal ∧ ∃ β s st, Inv X β st w ∧ SRel X N β s a ∧ K s st) ops.size (Array.replicate ops.size false) a { w with drawn := w.drawn + 1 } := by
  obtain ⟨M, hM, hns, h⟩ := h
  have hI' : Inv X β st { w with drawn := w.drawn + 1 } := hI.grow_below ⟨rfl, rfl, rfl, Nat.le_refl _, fun _ _ => rfl⟩
  rcases or_assoc5 h with h | h
  rotate_left
  · exact h N X.ds β a _ hd hI' hS
  refine wpAny_of_F _ _ _ _ ?_
  rcases h with ⟨l, hl, h⟩ | h | ⟨A, l1, l2, hle, hA, hl, h⟩ | ⟨t, hn, hok, h⟩ | ⟨t, hn, hok, h⟩
  · refine okS_sound hM hns hd (fun β s st a w h1 h2 h3 => ⟨rfl, β, s, st, h1, h2, h3⟩) (fun c a w h => by cases h.1) l _ _ _ _ _ _ _ hl start_closed hI' hS h ?_
    have := okS_length l _ hl
    refine Nat.le_trans this ?_
    refine Nat.le_trans (List.count_le_length ..) ?_
    simp [start]
  · exact vcD_sound hM hns hd (fun β s st a w h1 h2 h3 => ⟨rfl, β, s, st, h1, h2, h3⟩) (fun c a w h => by cases h.1) _ _ _ _ _ _ _ start_closed hI' hS h
  · have h0 : A.filter (fun x => !(([] : List (Nat × Nat)).map (·.1)).contains x) = A := List.filter_eq_self.2 fun x _ => by simp
    exact late_sound hM hns hd (fun β s st a w h1 h2 h3 => ⟨rfl, β, s, st, h1, h2, h3⟩) (fun c a w h => by cases h.1) hA ops.size l1 (start ops) (start ops) β _ st a _ [] hl (by simp [start]) start_closed ⟨rfl, fun j _ => by simp⟩ (by simp) (mask_get ops A s) ⟨by simp, by simp⟩ hI' (hS.mask A) h (by rw [h0]; exact hle)
  · exact tree_sound hM hns hd (fun β s st a w h1 h2 h3 => ⟨rfl, β, s, st, h1, h2, h3⟩) (fun c a w h => by cases h.1) t ops.size _ _ _ _ _ _ hok hn start_closed hI' hS h
  · exact (orders_sound hM hns hd (fun β s st a w h1 h2 h3 => ⟨rfl, β, s, st, h1, h2, h3⟩) (fun c a w h => by cases h.1) t ops.size _ _ _ _ _ _ start_closed hI' hS).1 hok hn h

theorem round_sound (hm : X.P.follows .mixedOrders = true) {l n : Nat} : ∀ (c : Code), okC N c = true → okRd c = true → ∀ (K : Post) (s : Sl) (st : St) (β : Bk) (a : Act) (w : World), Inv X β st w → SRel X N β s a → vc X c K s st →
    c.wpIn (Fence.wide.inRound l) n X.P (fun e a w => ∃ β s st, Inv X β st w ∧ SRel X N β s a ∧ K e s st) a w := by
  intro c
  induction c with
  | skip => intro _ _ K s st β a w hI hS h; exact wpIn_skip ⟨β, s, st, hI, hS, h⟩
  | region id ops draw =>
    intro hc hr K s st β a w hI hS h
    have hd := okD_spec (show ops.all (okD N) = true from hc)
    refine wpIn_mono (Q := fun e a w => e = .normal ∧ ∃ β s st, Inv X β st w ∧ SRel X N β s a ∧ K .normal s st) ?_ (fun e a w => by rintro ⟨rfl, β, s, st, h1, h2, h3⟩; exact ⟨β, s, st, h1, h2, h3⟩)
    have hQ : ¬LetsOut (fun (e : Exit) (a : Act) (w : World) => e = .normal ∧ ∃ β s st, Inv X β st w ∧ SRel X N β s a ∧ K .normal s st) := by rintro ⟨a, w, h, _⟩; cases h
    cases draw with
    | false =>
      refine wpIn_region (wpOpsIn_of hQ hr _ _ _ ?_)
      have h' : vcO false X ops.toList ((List.range ops.size).filterMap fun i => ops[i]?) s st (K .normal) := by
        have := range_all ops.toList
        simp only [Array.length_toList, Array.getElem?_toList] at this
        rw [this]; exact h
      exact vcO_sound hd (fun β s st a w h1 h2 h3 => ⟨rfl, β, s, st, h1, h2, h3⟩) _ _ _ _ _ _ hI hS h'
    | true =>
      refine wpIn_region_draw fun t => ?_
      simp only [Region.schedule, hm, Bool.true_or, if_true]
      exact wpOpsIn_of hQ hr _ _ _ (wpAny_sound ops.size t _ a _ (vcR_any hm hd hI hS h))
  | seq x y ihx ihy =>
    intro hc hr K s st β a w hI hS h
    simp only [okC, okRd, Bool.and_eq_true] at hc hr
    refine wpIn_seq (wpIn_mono (ihx hc.1 hr.1 _ _ _ _ _ _ hI hS h) fun e a w => ?_)
    rintro ⟨β, s, st, h1, h2, h3⟩
    cases e with
    | normal => exact ihy hc.2 hr.2 _ _ _ _ _ _ h1 h2 h3
    | _ => exact ⟨β, s, st, h1, h2, h3⟩
  | block id x ih =>
    intro hc hr K s st β a w hI hS h
    refine wpIn_block (wpIn_mono (ih hc hr _ _ _ _ _ _ hI hS h) fun e a w => ?_)
    rintro ⟨β, s, st, h1, h2, h3⟩
    cases e with
    | exit i =>
      simp only [blkP] at h3
      simp only [Exit.inBlock]
      by_cases hi : i = id
      · subst hi; simp only [BEq.rfl, cond_true] at h3; rw [if_pos rfl]; exact ⟨β, s, st, h1, h2, h3⟩
      · have hb : (i == id) = false := by simpa using hi
        rw [hb, cond_false] at h3; rw [if_neg hi]; exact ⟨β, s, st, h1, h2, h3⟩
    | _ => exact ⟨β, s, st, h1, h2, h3⟩
  | _ => intro _ h; simp [okRd] at h
end
end Go.Proofs.Pv

/- slices.Values over data: the iterator, walked in the world. -/
namespace Go.Proofs.Pv
open Go Go.RowKit Go.Proofs Go.Shelf
set_option maxRecDepth 100000
attribute [local go_sem] Oper.semAt_some

set_option maxHeartbeats 2000000 in
theorem n_values1 (n : Nat) (l Bs : Nat) (ad : Addr) (len cap : Nat) (hreach : len ≤ 1000000) (J : Nat → World → Prop)
    (hJ : ∀ k W W', J k W → Below W.heap.size W W' → J k W')
    (hY : ∀ k W, J k W → k < len → ∃ vs : List Value, vs.length = 7 ∧ (∀ u ∈ vs, u.oneCell' = true) ∧ (∀ j u, vs[j]? = some u → W.cell? (ad.add (k * 7 + j)) = some u) ∧
      ∀ W', Below W.heap.size W W' → YieldAt Fence.wide (n - 1) Tryd.prog l #[.agg vs.toArray] W' fun e W' => e = .returned (.bool true) ∧ J (k + 1) W')
    (W : World) (hBs : W.cell? ⟨Bs, 0, none⟩ = some (.slice (some ad) len cap)) (h0 : J 0 W) :
    CallsIn Fence.wide n Tryd.prog 135 #[.func (.yield l) #[] #[], .pointer (some ⟨Bs, 0, none⟩)] W fun e W' => (∃ v, e = .returned v) ∧ J len W' := by
  refine callsIn_of_wp Tryd.func135 rfl trivial ?_ rfl
  simp only [Tryd.ntmps135, List.size_toArray, List.length_cons, List.length_nil, Nat.reduceAdd, Nat.reduceSub, Array.replicate_succ, Array.replicate_zero, List.push_toArray, List.append_toArray, List.nil_append, List.cons_append]
  gi_wp2
  gi_loopw [7] (fun i wr => ∃ k : Nat, k ≤ len ∧ i = .int .i64 k ∧ J k wr)
    (fun i _ => len - (intOf i).toNat)
  case atStart => exact ⟨0, Nat.zero_le _, rfl, h0⟩
  case round =>
    obtain ⟨k, hk, rfl, hJs⟩ := hrel
    by_cases hlt : k < len
    · obtain ⟨vs, hv7, h1c, hvs, hy⟩ := hY _ _ hJs hlt
      obtain ⟨a0, a1, a2, a3, a4, a5, a6, rfl⟩ : ∃ a0 a1 a2 a3 a4 a5 a6, vs = [a0, a1, a2, a3, a4, a5, a6] := by
        match vs, hv7 with
        | [a0, a1, a2, a3, a4, a5, a6], _ => exact ⟨_, _, _, _, _, _, _, rfl⟩
      have c0 : wr.cell? (ad.add (k * 7)) = some a0 := hvs 0 a0 rfl
      have c1 : wr.cell? { block := (ad.add (k * 7)).block, off := (ad.add (k * 7)).off + 1 } = some a1 := by have := hvs 1 a1 rfl; rwa [← add_add] at this
      have c2 : wr.cell? { block := (ad.add (k * 7)).block, off := (ad.add (k * 7)).off + 2 } = some a2 := by have := hvs 2 a2 rfl; rwa [← add_add] at this
      have c3 : wr.cell? { block := (ad.add (k * 7)).block, off := (ad.add (k * 7)).off + 3 } = some a3 := by have := hvs 3 a3 rfl; rwa [← add_add] at this
      have c4 : wr.cell? { block := (ad.add (k * 7)).block, off := (ad.add (k * 7)).off + 4 } = some a4 := by have := hvs 4 a4 rfl; rwa [← add_add] at this
      have c5 : wr.cell? { block := (ad.add (k * 7)).block, off := (ad.add (k * 7)).off + 5 } = some a5 := by have := hvs 5 a5 rfl; rwa [← add_add] at this
      have c6 : wr.cell? { block := (ad.add (k * 7)).block, off := (ad.add (k * 7)).off + 6 } = some a6 := by have := hvs 6 a6 rfl; rwa [← add_add] at this
      have q0 : ∀ (a : Addr) (w : World), (store a a0).run Tryd.prog w = stored Tryd.prog w a a0 .plain := fun a w => run_store Tryd.prog w a _ _ (h1c _ (by simp))
      have q1 : ∀ (a : Addr) (w : World), (store a a1).run Tryd.prog w = stored Tryd.prog w a a1 .plain := fun a w => run_store Tryd.prog w a _ _ (h1c _ (by simp))
      have q2 : ∀ (a : Addr) (w : World), (store a a2).run Tryd.prog w = stored Tryd.prog w a a2 .plain := fun a w => run_store Tryd.prog w a _ _ (h1c _ (by simp))
      have q3 : ∀ (a : Addr) (w : World), (store a a3).run Tryd.prog w = stored Tryd.prog w a a3 .plain := fun a w => run_store Tryd.prog w a _ _ (h1c _ (by simp))
      have q4 : ∀ (a : Addr) (w : World), (store a a4).run Tryd.prog w = stored Tryd.prog w a a4 .plain := fun a w => run_store Tryd.prog w a _ _ (h1c _ (by simp))
      have q5 : ∀ (a : Addr) (w : World), (store a a5).run Tryd.prog w = stored Tryd.prog w a a5 .plain := fun a w => run_store Tryd.prog w a _ _ (h1c _ (by simp))
      have q6 : ∀ (a : Addr) (w : World), (store a a6).run Tryd.prog w = stored Tryd.prog w a a6 .plain := fun a w => run_store Tryd.prog w a _ _ (h1c _ (by simp))
      obtain ⟨fn, tmps, assign, body, hyr, hR⟩ := hy (wr.alloc (Obj.cells #[a0, a1, a2, a3, a4, a5, a6] 27)) ((Below.refl _ _).alloc (Nat.le_refl _) _)
      replace hyr : (Instr.yield l #[Value.agg #[a0, a1, a2, a3, a4, a5, a6]]).run Tryd.prog (wr.alloc (Obj.cells #[a0, a1, a2, a3, a4, a5, a6] 27)) = _ := hyr
      gi_wp2
      refine ⟨fun h => by simp [Fence.wide] at h, hR.mono ?_⟩
      rintro e W3 ⟨rfl, hJ3⟩
      gi_wp2
      go_roundw
      case rel => exact ⟨k + 1, by omega, by simp, hJ3⟩
      case measure => simp [intOf]; omega
    · obtain rfl : k = len := by omega
      gi_wp2
      go_end0
      exact ⟨⟨_, rfl⟩, hJs⟩
set_option maxHeartbeats 1000000 in
theorem n_values0 (n : Nat) (l Bs : Nat) (cap : Nat) (J : Nat → World → Prop) (W : World) (hBs : W.cell? ⟨Bs, 0, none⟩ = some (.slice none 0 cap)) (h0 : J 0 W) :
    CallsIn Fence.wide n Tryd.prog 135 #[.func (.yield l) #[] #[], .pointer (some ⟨Bs, 0, none⟩)] W fun e W' => (∃ v, e = .returned v) ∧ J 0 W' := by
  refine callsIn_of_wp Tryd.func135 rfl trivial ?_ rfl
  simp only [Tryd.ntmps135, List.size_toArray, List.length_cons, List.length_nil, Nat.reduceAdd, Nat.reduceSub, Array.replicate_succ, Array.replicate_zero, List.push_toArray, List.append_toArray, List.nil_append, List.cons_append]
  gi_wp2
  gi_loopw [7] (fun i wr => i = .int .i64 0 ∧ J 0 wr) (fun _ _ => 0)
  case atStart => exact ⟨rfl, h0⟩
  case round =>
    obtain ⟨rfl, hJs⟩ := hrel
    gi_wp2
    go_end0
    exact ⟨⟨_, rfl⟩, hJs⟩
end Go.Proofs.Pv

/- A range over slices.Values of data: the rule. -/
namespace Go.Proofs.Pv
open Go Go.RowKit Go.Proofs
set_option maxRecDepth 100000

section
variable {X : Cx} {β : Bk} {st : St} {w : World}
/-- What is no object's turns. -/
theorem Inv.poke (hI : Inv X β st w) {r L : Nat} {S : List Nat} {G : World → Prop} (hr : st[r]? = some (some [.gh S G])) (hL : L ∈ S) (h1 : X.st1.length ≤ r) {o : Obj} (hG : G (w.putObj L o)) : Inv X β st (w.putObj L o) := by
  obtain ⟨g1, g2, g3, g4, g5, g6⟩ := hI.gh r S G hr
  have hoth : ∀ k, k ≠ L → (w.putObj L o).heap[k]? = w.heap[k]? := fun k hk => World.putObj_heap_other hk
  have hsz : (w.putObj L o).heap.size = w.heap.size := by simp [World.putObj]
  refine ⟨hI.b0, hI.b1.trans ⟨rfl, rfl, rfl, by rw [hsz]; exact Nat.le_refl _, fun k hk => hoth k (by have := g4 h1 L hL; omega)⟩, hI.len, hI.stp, hI.bep, hI.nw, fun r b m hb => by rw [hsz]; exact hI.ow r b m hb, fun r' cs hr' => ?_, hI.inj, fun r' S' G' hr' => ?_, hI.gi, hI.gm, fun E hE => ?_, hI.nd⟩
  · obtain ⟨bk, q1, q2⟩ := hI.obj r' cs hr'
    refine ⟨bk, q1, ?_⟩
    cases bk with
    | none => exact q2
    | some p =>
      obtain ⟨b, m⟩ := p
      obtain ⟨c, e, q3, q4⟩ := q2
      exact ⟨c, e, by rw [hoth b (fun e => g6 r' cs b m hr' q1 (e ▸ hL))]; exact q3, q4⟩
  · obtain ⟨q1, q2, q3, q4, q5⟩ := hI.gh r' S' G' hr'
    by_cases he : r' = r
    · subst he
      rw [hr] at hr'; cases hr'
      exact ⟨q1, hG, fun k hk => by rw [hsz]; exact q3 k hk, q4, q5⟩
    · exact ⟨q1, q1 w _ (fun k hk => hoth k fun e => hI.gi r' r S' S G' G hr' hr he k hk (e ▸ hL)) q2, fun k hk => by rw [hsz]; exact q3 k hk, q4, q5⟩
  · rw [hoth E (fun e => hI.gm r S G hr E hE (e ▸ hL))]
    exact hI.mks E hE
/-- A mark more. -/
theorem Inv.mark (hI : Inv X β st w) : Inv ⟨X.P, X.w0, X.w1, X.st1, X.β1, w.heap.size :: X.ds ++ X.ms, []⟩ β st (w.alloc (.deferred (some []))) := by
  have hI1 := hI.grow_below (w' := w.alloc (.deferred (some []))) ((Below.refl _ _).alloc (Nat.le_refl _) _)
  have hnew : (w.alloc (.deferred (some []))).heap[w.heap.size]? = some (.deferred (some [])) := World.alloc_heap_new w _
  have hlt : ∀ D ∈ X.ds ++ X.ms, D < w.heap.size := fun D hD => by
    have h1 := hI.mks D hD
    rcases Nat.lt_or_ge D w.heap.size with h3 | h3
    · exact h3
    · rw [Array.getElem?_eq_none h3] at h1; cases h1
  refine ⟨hI1.b0, hI1.b1, hI1.len, hI1.stp, hI1.bep, hI1.nw, hI1.ow, hI1.obj, hI1.inj, hI1.gh, hI1.gi, fun r S G hr D hD => ?_, fun D hD => ?_, ?_⟩
  · simp only [List.nil_append, List.cons_append, List.mem_cons] at hD
    rcases hD with rfl | hD
    · intro hk
      have := ((hI.gh r S G hr).2.2.1 _ hk).2
      omega
    · exact hI1.gm r S G hr D hD
  · simp only [List.nil_append, List.cons_append, List.mem_cons] at hD
    rcases hD with rfl | hD
    · exact hnew
    · exact hI1.mks D hD
  · simp only [List.nil_append, List.cons_append, List.nodup_cons]
    exact ⟨fun h => Nat.lt_irrefl _ (hlt _ h), hI.nd⟩
theorem vc_values {X : Cx} (hP : X.P = Tryd.prog) {f : Operand} {p : Nat} {x y : Code} {K : Post} {s : Sl} {st : St} {r n : Nat} {cs : List AV} {sv : AV} (hx : okRd x = true) (hy : okRd y = true) (hp : ∀ N, okC N y = true → p < N) (hn : n ≤ 1000000)
    (hf : ev s f = .fn (.func 135) [] [.ptr r 0]) (hr : st[r]? = some (some [sv])) (hsl0 : Pv.sl 7 st sv = some (n, cs)) (hall : cs.all leaf = true)
    (h : ∀ S G, ∃ I : Nat → St → Prop, I 0 (st ++ [none, some [.gh S G]]) ∧
      (∀ k T, I k T → T[st.length + 1]? = some (some [.gh S G]) ∧ Pv.sl 7 T sv = some (n, cs)) ∧
      (∀ k T, k < n → I k T → ∀ Y : Cx, Y.P = X.P → Y.w0 = X.w0 → Y.st1 = T → vc Y x (fun e s2 T2 => e = .normal ∧ ∀ Z : Cx, Z.P = X.P → Z.w0 = X.w0 → Z.st1 = X.st1 → vc Z y (fun e _ T3 => e = .normal ∧ I (k + 1) T3) s2 T2) ((p, .agg ((cs.drop (k * 7)).take 7)) :: s) T) ∧
      (∀ T, I n T → K .normal s T)) : vc X (.rangeFunc f #[p] x y) K s st := by
  intro N ds β a w hcx hcy hm hD hI hS
  refine (wpIn_wide (n := 0)).1 (wpIn_rangeFunc fun fn _ => ?_)
  have hfv := hS.eval f
  rw [hf] at hfv
  obtain ⟨as', bs, hfe, has, hbs⟩ := inv_fn hfv
  obtain rfl : as' = #[] := by
    have := has.1
    simp at this
    exact this
  obtain ⟨b1, hb1⟩ : ∃ b1, bs = #[b1] := Array.size_eq_one_iff.1 (by simpa using hbs.1)
  subst hb1
  obtain ⟨bB, mB, hbB, hb1⟩ := inv_ptr (hbs.2 0 _ _ rfl rfl)
  subst hb1
  obtain ⟨rec0, hrec0⟩ : ∃ rec0 : Loop, rec0 = { state := .ready, pending := none, fn, tmps := a.tmps, params := #[p], assign := x, body := y, defers := w.heap.size } := ⟨_, rfl⟩
  obtain ⟨D, hDe⟩ : ∃ D, D = w.heap.size := ⟨_, rfl⟩
  obtain ⟨W1, hW1⟩ : ∃ W1, (w.alloc (.deferred (some []))).alloc (.loop rec0) = W1 := ⟨_, rfl⟩
  have hL1 : W1.heap[D + 1]? = some (.loop rec0) := by
    rw [← hW1, hDe]; have := World.alloc_heap_new (w.alloc (.deferred (some []))) (.loop rec0); rwa [World.size_alloc] at this
  have hBW1 : Below (w.alloc (.deferred (some []))).heap.size (w.alloc (.deferred (some []))) W1 := by rw [← hW1]; exact (Below.refl _ _).alloc (Nat.le_refl _) _
  have hszW : W1.heap.size = D + 2 := by rw [← hW1, hDe]; simp [World.size_alloc]
  -- the round's context
  have hI1 := (hI.mark).grow_below hBW1
  have hb0 := hI.b1.size
  have hbD : X.w1.heap.size ≤ D := by rw [hDe]; exact hb0
  obtain ⟨mk, hmk⟩ : ∃ mk, mk = D :: ds ++ X.ms := ⟨_, rfl⟩
  have hI1 : Inv ⟨X.P, X.w0, X.w1, X.st1, X.β1, mk, []⟩ β st W1 := by rw [hmk, hDe]; exact hI1
  have hI2 := hI1.reg (g := D + 1) (m := 0) (show X.w1.heap.size ≤ D + 1 by omega) (by omega)
  obtain ⟨G, hG⟩ : ∃ G : World → Prop, G = fun W => ∃ b : LoopState, W.heap[D + 1]? = some (.loop { rec0 with state := b }) := ⟨_, rfl⟩
  have hGs : Stable [D + 1] G := fun A B hAB hA => by
    rw [hG] at hA ⊢
    obtain ⟨b, hb⟩ := hA
    exact ⟨b, by rw [hAB _ (by simp)]; exact hb⟩
  have hGr : ∀ W : World, W.heap[D + 1]? = some (.loop rec0) → G W := fun W hW => by rw [hG]; exact ⟨.ready, by rw [hW, hrec0]⟩
  have hlen := hI.len
  have hltw : ∀ (r' : Nat) b m, β[r']? = some (some (b, m)) → b < D := fun r' b m hb => by rw [hDe]; exact (hI.ow r' b m hb).2
  have hI3 := hI2.ghost (S := [D + 1]) (G := G) hGs (hGr W1 hL1) (fun k hk => by simp at hk; subst hk; exact ⟨by show X.w1.heap.size ≤ D + 1; omega, by omega⟩)
    (fun k hk => by simp at hk; subst hk; exact ⟨β.length, 0, by simp⟩)
    (fun r' cs' b m q1 q2 => by
      have : r' < st.length := by
        rcases Nat.lt_or_ge r' st.length with h' | h'
        · exact h'
        · rw [List.getElem?_append_right h'] at q1
          rcases Nat.eq_zero_or_pos (r' - st.length) with h0 | h0
          · rw [h0] at q1; simp at q1
          · rw [List.getElem?_eq_none (by simp; omega)] at q1; cases q1
      rw [List.getElem?_append_left (by omega)] at q2
      have := hltw r' b m q2
      simp; omega)
    (fun r' S' G' q1 k hk hk2 => by
      have hr' : r' < st.length := by
        rcases Nat.lt_or_ge r' st.length with h' | h'
        · exact h'
        · rw [List.getElem?_append_right h'] at q1
          rcases Nat.eq_zero_or_pos (r' - st.length) with h0 | h0
          · rw [h0] at q1; simp at q1
          · rw [List.getElem?_eq_none (by simp; omega)] at q1; cases q1
      rw [List.getElem?_append_left hr'] at q1
      simp at hk; subst hk
      have := ((hI.gh r' S' G' q1).2.2.1 _ hk2).2
      omega)
    (fun E hE => by
      simp only [List.nil_append] at hE
      have h1 := hI1.mks E (by simpa using hE)
      intro hk; simp at hk; subst hk
      rw [hL1] at h1; cases h1)
  obtain ⟨I, hI0, hIa, hIb, hIc⟩ := h [D + 1] G
  have hst1 := hI.stp
  obtain ⟨yst, hyst⟩ := hst1
  have hX1 : X.st1.length ≤ st.length := by
    have := congrArg List.length hyst
    simp only [List.length_append] at this
    show X.st1.length ≤ st.length
    have : st.length = X.st1.length + yst.length := this
    omega
  -- the context of the rounds
  obtain ⟨Z, hZ⟩ : ∃ Z : Cx, Z = ⟨X.P, X.w0, X.w1, X.st1, β, mk, []⟩ := ⟨_, rfl⟩
  have toZ : ∀ {β' T W}, Inv ⟨X.P, X.w0, X.w1, X.st1, X.β1, mk, []⟩ β' T W → (∃ z, β' = β ++ z) → Inv Z β' T W := fun h hz => by
    rw [hZ]; exact ⟨h.b0, h.b1, h.len, h.stp, hz, h.nw, h.ow, h.obj, h.inj, h.gh, h.gi, h.gm, h.mks, h.nd⟩
  obtain ⟨J, hJ⟩ : ∃ J : Nat → World → Prop, J = fun k W => (∃ β' T, Inv Z β' T W ∧ I k T) ∧ W.heap[D + 1]? = some (.loop rec0) := ⟨_, rfl⟩
  have hJ0 : J 0 W1 := by
    rw [hJ]
    refine ⟨⟨_, _, toZ hI3 ⟨[some (D + 1, 0), none], by simp⟩, ?_⟩, hL1⟩
    simpa using hI0
  have hJb : ∀ k W W', J k W → Below W.heap.size W W' → J k W' := fun k W W' hk hb => by
    rw [hJ] at hk ⊢
    obtain ⟨⟨β', T, q1, q2⟩, q3⟩ := hk
    exact ⟨⟨β', T, q1.grow_below hb, q2⟩, by rw [hb.block _ (Array.getElem?_eq_some_iff.1 q3).1]; exact q3⟩
  -- the box
  obtain ⟨q, hcell, hq⟩ : ∃ q, (∀ W, Below w.heap.size w W → W.cell? ⟨bB, 0, none⟩ = some q) ∧ VRel X.w0 β q sv := by
    obtain ⟨u, h1, h2⟩ := readable_obj hI hr hbB
    exact ⟨u 0, fun W hW => by have := h1 0 (by simp) W hW; rwa [add_zero'] at this, h2 0 sv rfl⟩
  have hBw : Below w.heap.size w W1 := by
    rw [← hW1]; exact ((Below.refl _ _).alloc (Nat.le_refl _) _).alloc (by simp [World.size_alloc]) _
  have hcB := hcell W1 hBw
  obtain ⟨hq1, A, cap, rfl, hq2⟩ := slc_read hI hq (sl_slc hsl0).1
  have hcl : cs.length = n * 7 := (sl_slc hsl0).2
  have eg : ∀ args w, (callFunc 135 args).run X.P w = .ok (.enter 135 args) w := by rw [hP]; exact enters_of Tryd.func135 (by kernel_rfl) rfl
  have hGput : ∀ (W : World) (b : LoopState), D + 1 < W.heap.size → G (W.putObj (D + 1) (.loop { rec0 with state := b })) := fun W b hW => by rw [hG]; exact ⟨b, World.putObj_heap_same hW⟩
  have hmain : CallsIn Fence.wide (0 - 1) X.P 135 #[.func (.yield (D + 1)) #[] #[], .pointer (some ⟨bB, 0, none⟩)] W1 fun e W' => (∃ v, e = .returned v) ∧ J n W' := by
    rw [hP]
    cases A with
    | none =>
      have hn0 : n = 0 := by
        rcases Nat.eq_zero_or_pos n with h' | h'
        · exact h'
        · obtain ⟨ad, h1, _⟩ := hq2 (by omega)
          cases h1
      subst hn0
      exact n_values0 _ _ _ _ J W1 hcB hJ0
    | some ad =>
    refine n_values1 _ _ _ ad n cap hn J hJb (fun k W hJk hk => ?_) W1 hcB hJ0
    rw [hJ] at hJk
    obtain ⟨⟨β', T, q1, q2⟩, q3⟩ := hJk
    obtain ⟨hgh, hslT⟩ := hIa k T q2
    obtain ⟨z, hz⟩ := q1.bep
    have hz : β' = β ++ z := by rw [hZ] at hz; exact hz
    obtain ⟨_, A', c', e', hrd⟩ := slc_read q1 (x := sv) (q := .slice (some ad) n cap) (by rw [hz, hZ]; exact hq.ext z) (sl_slc hslT).1
    cases e'
    obtain ⟨ad', e1, u, r1, r2⟩ := hrd (by omega)
    cases e1
    refine ⟨(List.range 7).map (fun j => u (k * 7 + j)), by simp, fun v hv => ?_, fun j v hv => ?_, fun W' hWW => ?_⟩
    · obtain ⟨j, hj, rfl⟩ := List.mem_map.1 hv
      have hj := List.mem_range.1 hj
      have hlt : k * 7 + j < cs.length := by omega
      exact leaf_one (r2 _ _ (List.getElem?_eq_getElem hlt)) (List.all_eq_true.1 hall _ (List.getElem_mem hlt))
    · have hj : j < 7 := by
        rcases Nat.lt_or_ge j 7 with h' | h'
        · exact h'
        · rw [List.getElem?_eq_none (by simpa using h')] at hv; cases hv
      simp only [List.getElem?_map, List.getElem?_range hj, Option.map_some, Option.some.injEq] at hv
      subst hv
      exact r1 _ (by omega) W (Below.refl _ _)
    · have hlt1 : D + 1 < W.heap.size := (Array.getElem?_eq_some_iff.1 q3).1
      have hl' : W'.heap[D + 1]? = some (.loop rec0) := by rw [hWW.block _ hlt1]; exact q3
      have hyl := run_yield (P := Tryd.prog) (args := #[.agg ((List.range 7).map (fun j => u (k * 7 + j))).toArray]) hl' (by rw [hrec0]; rfl)
      rw [hrec0] at hyl
      refine ⟨fn, _, x, y, hyl, roundIn_of_wpIn trivial ?_⟩
      rw [← hP]
      obtain ⟨Y, hY⟩ : ∃ Y : Cx, Y = ⟨X.P, X.w0, W', T, β', mk, []⟩ := ⟨_, rfl⟩
      have hIY : Inv Y β' T W' := by
        have := (q1.grow_below hWW).here
        rw [hZ] at this; rw [hY]; exact this
      have hag : VRel X.w0 β' (.agg ((List.range 7).map (fun j => u (k * 7 + j))).toArray) (.agg ((cs.drop (k * 7)).take 7)) := by
        refine .agg (by simp; omega) (fun j v x hv hx => ?_)
        simp only [List.getElem?_toArray, List.getElem?_map] at hv
        have hj : j < 7 := by
          rcases Nat.lt_or_ge j 7 with h' | h'
          · exact h'
          · rw [List.getElem?_eq_none (show (List.range 7).length ≤ j by simpa using h')] at hv; cases hv
        simp only [List.getElem?_range hj, Option.map_some, Option.some.injEq] at hv
        subst hv
        have := r2 (k * 7 + j) x (by simpa [List.getElem?_take, hj] using hx)
        rw [hZ] at this
        exact this
      have hSr : SRel Y N β' ((p, .agg ((cs.drop (k * 7)).take 7)) :: s) { tmps := a.tmps.setIfInBounds p (.agg ((List.range 7).map (fun j => u (k * 7 + j))).toArray), defers := [] } := by
        have h0 : SRel Y N β' s { tmps := a.tmps, defers := [] } := ⟨hS.size, by rw [hY]; rfl, fun j => by rw [hY, hz]; exact (hS.slot j).ext z⟩
        have := h0.put (hp N hcy) (v := .agg ((List.range 7).map (fun j => u (k * 7 + j))).toArray) (x := .agg ((cs.drop (k * 7)).take 7)) (by rw [hY]; exact hag)
        exact this
      have hYP : Y.P = X.P := by rw [hY]
      have hZP : Z.P = X.P := by rw [hZ]
      have hx1 := round_sound (X := Y) (N := N) (by rw [hYP]; exact hm) (l := D + 1) (n := 0 - 1 - 1) x hcx hx _ _ _ _ _ _ hIY hSr (hIb k T hk q2 Y hYP (by rw [hY]) (by rw [hY]))
      rw [hYP] at hx1
      have hfo : ((#[p].zip #[Value.agg ((List.range 7).map (fun j => u (k * 7 + j))).toArray]).foldl (fun tmps x => match x with | (t, a) => tmps.setIfInBounds t a) a.tmps) = a.tmps.setIfInBounds p (.agg ((List.range 7).map (fun j => u (k * 7 + j))).toArray) := by simp
      change Code.wpIn _ _ _ x _ { tmps := ((#[p].zip #[Value.agg ((List.range 7).map (fun j => u (k * 7 + j))).toArray]).foldl (fun tmps x => match x with | (t, a) => tmps.setIfInBounds t a) a.tmps), defers := [] } _
      rw [hfo]
      refine wpIn_mono hx1 ?_
      rintro e a1 w1 ⟨β2, s2, T2, i1, i2, rfl, i3⟩
      have hb1 : Below W'.heap.size W' w1 := by have := i1.b1; rw [hY] at this; exact this
      have hl1 : w1.heap[D + 1]? = some (.loop rec0) := by rw [hb1.block _ (Array.getElem?_eq_some_iff.1 hl').1]; exact hl'
      obtain ⟨ex, hex⟩ := i1.bep
      have hex : β2 = β' ++ ex := by rw [hY] at hex; exact hex
      obtain ⟨y2, hy2⟩ := i1.stp
      have hy2 : T2 = T ++ y2 := by rw [hY] at hy2; exact hy2
      have hgh2 : T2[st.length + 1]? = some (some [.gh [D + 1] G]) := by rw [hy2, List.getElem?_append_left (List.getElem?_eq_some_iff.1 hgh).1]; exact hgh
      have hIZ : Inv Z β2 T2 w1 := by
        rw [hex]
        refine (q1.grow_below hWW).back (mk := mk) (ds := []) ?_
        rw [hY, hex] at i1
        rw [hZ]
        exact i1
      have hZst : Z.st1.length ≤ st.length + 1 := by rw [hZ]; show X.st1.length ≤ st.length + 1; omega
      have hIZ2 := hIZ.poke hgh2 (by simp) hZst (o := .loop { rec0 with state := .busy }) (hGput w1 .busy (Array.getElem?_eq_some_iff.1 hl1).1)
      refine ⟨_, run_beginRound hl1 (by rw [hrec0]), ?_⟩
      have hS2 : SRel Z N β2 s2 a1 := ⟨i2.size, by rw [hZ]; have := i2.defers; rw [hY] at this; exact this, fun j => by have := i2.slot j; rw [hY] at this; rw [hZ]; exact this⟩
      have hy1 := round_sound (X := Z) (N := N) (by rw [hZP]; exact hm) (l := D + 1) (n := 0 - 1 - 1) y hcy hy _ _ _ _ _ _ hIZ2 hS2 (i3 Z hZP (by rw [hZ]) (by rw [hZ]))
      rw [hZP] at hy1
      refine wpIn_mono hy1 ?_
      rintro e a2 w3 ⟨β3, s3, T3, j1, j2, rfl, j3⟩
      have hgh3 := (hIa (k + 1) T3 j3).1
      have hG3 := (j1.gh _ _ _ hgh3).2.1
      have hG3' := hG3
      rw [hG] at hG3'
      obtain ⟨b3, hl3⟩ := hG3'
      refine ⟨_, _, run_endRound none hl3, rfl, ?_⟩
      rw [hJ]
      have hlt3 := (Array.getElem?_eq_some_iff.1 hl3).1
      have hre : ({ rec0 with state := if (none : Option Code).isNone then .ready else .done, pending := none } : Loop) = rec0 := by rw [hrec0]; rfl
      refine ⟨⟨β3, T3, ?_, j3⟩, ?_⟩
      · refine j1.poke hgh3 (by simp) hZst ?_
        have := hGput w3 .ready hlt3
        rw [hrec0] at this ⊢
        exact this
      · rw [World.putObj_heap_same hlt3]
        rw [hrec0]; rfl
  refine ⟨D + 1, [markD D], W1, { target := .fn (.func 135) #[.pointer (some ⟨bB, 0, none⟩)], args := #[.func (.yield (D + 1)) #[] #[]] }, W1, 135, #[.func (.yield (D + 1)) #[] #[], .pointer (some ⟨bB, 0, none⟩)], W1, ?_, ?_, fun _ _ => trivial, ?_, fun h => by simp [Fence.wide] at h, hmain.mono ?_⟩
  · rw [← hW1, hrec0, hDe]; exact run_enterLoop_outer _ _ _ _ _
  · simp only [resolve, hfe]
    simp [go_sem]
  · simp [invoke, go_sem, eg]
  · rintro e W2 ⟨⟨v, rfl⟩, hJn⟩
    rw [hJ] at hJn
    obtain ⟨⟨β', T, q1, q2⟩, q3⟩ := hJn
    obtain ⟨hgh, hslT⟩ := hIa n T q2
    have hZst : Z.st1.length ≤ st.length + 1 := by rw [hZ]; show X.st1.length ≤ st.length + 1; omega
    refine ⟨none, _, by have := run_endLoop (P := X.P) q3 (by rw [hrec0]; simp); rw [show rec0.pending = none by rw [hrec0]] at this; exact this, ?_⟩
    have hI4 := q1.poke hgh (by simp) hZst (o := .loop { rec0 with state := .exhausted }) (hGput W2 .exhausted (Array.getElem?_eq_some_iff.1 q3).1)
    rw [show ({ rec0 with state := .exhausted } : Loop) = { rec0 with state := .exhausted, pending := none } by rw [hrec0]] at hI4
    obtain ⟨z, hz⟩ := q1.bep
    have hz : β' = β ++ z := by rw [hZ] at hz; exact hz
    obtain ⟨yb, hyb⟩ := hI.bep
    refine ⟨D :: ds, β', s, T, fun E hE => ?_, ?_, ?_, hIc T q2⟩
    · rcases List.mem_cons.1 hE with rfl | hE
      · exact hbD
      · exact hD E hE
    · rw [hZ] at hI4
      refine ⟨hI4.b0, hI4.b1, hI4.len, hI4.stp, ⟨yb ++ z, by rw [hz, hyb, List.append_assoc]; rfl⟩, hI4.nw, hI4.ow, hI4.obj, hI4.inj, hI4.gh, hI4.gi, fun r S G hr E hE => hI4.gm r S G hr E (by show E ∈ [] ++ mk; rw [hmk]; exact hE), fun E hE => hI4.mks E (by show E ∈ [] ++ mk; rw [hmk]; exact hE), by have h7 := hI4.nd; change ([] ++ mk).Nodup at h7; rw [hmk] at h7; exact h7⟩
    · exact ⟨hS.size, by show markD D :: a.defers = _; rw [hS.defers]; rfl, fun j => by rw [hz]; exact (hS.slot j).ext z⟩
theorem V_values {X : Cx} (hP : X.P = Tryd.prog) {f : Operand} {p : Nat} {x y : Code} {k : List Fr} {Q : Post} {s : Sl} {st : St} {u} {r n : Nat} {cs : List AV} {sv : AV} (hx : okRd x = true) (hy : okRd y = true) (hp : ∀ N, okC N y = true → p < N) (hn : n ≤ 1000000)
    (hf : ev s f = .fn (.func 135) [] [.ptr r 0]) (hr : st[r]? = some (some [sv])) (hsl0 : Pv.sl 7 st sv = some (n, cs)) (hall : cs.all leaf = true)
    (h : ∀ S G, ∃ I : Nat → St → Prop, I 0 (st ++ [none, some [.gh S G]]) ∧
      (∀ i T, I i T → T[st.length + 1]? = some (some [.gh S G]) ∧ Pv.sl 7 T sv = some (n, cs)) ∧
      (∀ i T, i < n → I i T → ∀ Y : Cx, Y.P = Tryd.prog → Y.w0 = X.w0 → Y.st1 = T → V Y x [] (fun e s2 T2 => e = .normal ∧ ∀ Z : Cx, Z.P = Tryd.prog → Z.w0 = X.w0 → Z.st1 = X.st1 → V Z y [] (fun e _ T3 => e = .normal ∧ I (i + 1) T3) () s2 T2) () ((p, .agg ((cs.drop (i * 7)).take 7)) :: s) T) ∧
      (∀ T, I n T → R X k Q () s T .normal)) : V X (.rangeFunc f #[p] x y) k Q u s st :=
  vc_values hP hx hy hp hn hf hr hsl0 hall fun S G => by
    obtain ⟨I, h1, h2, h3, h4⟩ := h S G
    refine ⟨I, h1, h2, fun i T hi hI Y hY1 hY2 hY3 => ?_, h4⟩
    have := h3 i T hi hI Y (hY1.trans hP) hY2 hY3
    rw [hP]
    exact this
end
end Go.Proofs.Pv
