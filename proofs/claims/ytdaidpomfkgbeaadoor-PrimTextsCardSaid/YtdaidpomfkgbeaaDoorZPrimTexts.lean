/- Proved: pavane/pavanelaw09.PrimTexts returns true for every input, panics at none, and leaves its arguments as they were; what the row lists is tied to the program's text by the given tie. Conditions: none beyond the given row's own. -/
import Derived.Test.YtdaidpomfkgbeaaDoorPC
import Derived.Test.YtdaidpomfkgbeaaDoorE22
import Derived.Test.YtdaidpomfkgbeaaDoorCards
import Derived.Test.YtdaidpomfkgbeaaDoorTie
import Derived.WalkKit
import Derived.ProofKit
import Derived.OpenShut
import Derived.ShutString
import Derived.ChangeOld
import Derived.Below
import Derived.Lib.SmallJoins
import Derived.Deep.DeepHandedRow
set_option linter.unusedSimpArgs false
set_option linter.unusedVariables false
set_option linter.unusedSimpArgs false
set_option linter.unusedVariables false
namespace Go.Proofs.YtdaidpomfkgbeaaDoor.primTexts
open Go.ChangeShapes Go.WideShapes Go.ChangeAt Go.RowKit Go.Proofs.Pv
open Go.ChangeMaps (open_string shut_string)

theorem own : ownKnob Tryd.prog.godebug = none := by kernel_rfl
theorem laidOut : laidOutB Tryd.prog = true := by kernel_rfl

set_option maxRecDepth 20000 in
/-- What is so of every call. -/
theorem contract (H : Type) (enc : TypeId × Value → H) (W : World) (base : Nat) (args : Array Value) (ds gs : List (DataW H)) (before : List MemPlace)
    (hval0 : ∀ (j : Nat) t v, Tryd.f3.params[j]? = some t → args[j]? = some v → Value.okWide Tryd.prog W .any base t v)
    (hW : DataW.Whole enc Tryd.prog Tryd.f3.params.toList Rows.primTextsSpec.vars false W args.toList ds gs before)
    (hwt : (DataW.weightsEach Tryd.prog (Tryd.f3.params.toList ++ (OpenSpec.ofChange Rows.primTextsSpec).bare.plain.varTypes Tryd.prog) (ds ++ gs)).all (· ≤ reachBytes) = true) (hL : laidMetH Tryd.prog Rows.primTextsRow.laid W) :
    Calls Tryd.prog 3 args W fun e W' => ∃ v, e = .returned v ∧ Rows.primTextsSpec.post enc Tryd.prog Tryd.f3 false true false false W args v W' := by
  have hval : ∀ (j : Nat) t v, Tryd.f3.params[j]? = some t → args[j]? = some v → Value.okWide Tryd.prog W .any base t v := hval0
  have hW' := hW
  obtain ⟨p, q, hA0, hV, rfl, hfz, hnd⟩ := hW
  have hA : DataW.TrodAll enc Tryd.prog W 0 (fun _ => true) true Tryd.f3.params.toList args.toList ds p := hA0
  rw [Tryd.params3] at hA hval
  obtain ⟨v0, vs0, d0, ds0, p0, q0, hargs, rfl, rfl, h0, w0⟩ := trodAll_cons hA
  obtain ⟨v1, vs1, d1, ds1, p1, q1, rfl, rfl, rfl, h1, w1⟩ := trodAll_cons w0
  obtain ⟨v2, vs2, d2, ds2, p2, q2, rfl, rfl, rfl, h2, w2⟩ := trodAll_cons w1
  obtain ⟨rfl, rfl, rfl⟩ := trodAll_nil w2
  obtain rfl : args = #[v0, v1, v2] := by cases args; simp_all
  obtain ⟨rfl, rfl⟩ := trodVars_none hV
  have hwe : ∀ q ∈ DataW.weightsEach Tryd.prog [9, 9, 24] [d0, d1, d2], q ≤ reachBytes := fun q hq => by
    have h := List.all_eq_true.1 hwt q hq
    exact of_decide_eq_true h
  have ok0 : wOK 9 d0 := wOK_each hwe (j := 0) rfl rfl
  obtain ⟨a0, rfl, rfl, rfl, w0w⟩ := open_string Tryd.underlying9 (hval 0 9 v0 rfl rfl) h0
  have g0 : a0.size ≤ 140737488355328 := by
    have h1 := ok0.le a0.data.toList.length (by simp [DataW.weights])
    have h2 := reachBytes_lt
    have h3 : a0.data.toList.length = a0.size := Array.length_toList
    omega
  have ok1 : wOK 9 d1 := wOK_each hwe (j := 1) rfl rfl
  obtain ⟨a1, rfl, rfl, rfl, w1w⟩ := open_string Tryd.underlying9 (hval 1 9 v1 rfl rfl) h1
  have g1 : a1.size ≤ 140737488355328 := by
    have h1 := ok1.le a1.data.toList.length (by simp [DataW.weights])
    have h2 := reachBytes_lt
    have h3 : a1.data.toList.length = a1.size := Array.length_toList
    omega
  have k2 := h2
  have lt2 : ∀ x ∈ p2, x.block < W.heap.size := by obtain ⟨m, hm⟩ := k2; exact DataW.trod_lt m _ _ _ hm
  have ok2 : wOK 24 d2 := wOK_each hwe (j := 2) rfl rfl
  obtain ⟨x2, b2, l2, u2, r2, f2⟩ := whole_rel2 (hval 2 24 v2 rfl rfl) h2 ok2
  clear hA0 hval0
  refine (walk_ofA (s_PrimTexts _ (gp_of_laid hL)) (.cons (.val _) (.cons (.val _) (.cons u2 .nil))) ⟨_, _, x2, b2, l2, rfl, g0, g1, r2, fun _ _ => rfl⟩).mono fun e W' ⟨he, bel⟩ => ?_
  subst he
  exact ⟨_, rfl, _, _, _, [], _, [], hW', trodAll_mk1 (shut_bool Tryd.underlying4 _), (trodAll_cons_mk (shut_string Tryd.underlying9 w0w) (trodAll_cons_mk (shut_string Tryd.underlying9 w1w) (trodAll_cons_mk (Below.trod laidOut (by kernel_rfl) (of_decide_eq_true (by kernel_rfl)) k2 bel lt2) trodAll_mk0))), rfl, bel.frame _, fun h => by cases h⟩

/-- A world for the witness: the tables hold what their initialisers lay. -/
noncomputable def laidWorld (os : Os) : World := { World.holding Tryd.prog os ⟨#[], #[], []⟩ with heap := (((World.holding Tryd.prog os ⟨#[], #[], []⟩).heap.modify 1 fun
      | .cells _ t frozen => .cells (namesL.map Value.string).toArray t frozen
      | o => o).modify 2 fun
      | .cells _ t frozen => .cells (aritiesL.map (Value.int .i64)).toArray t frozen
      | o => o) }
set_option maxRecDepth 100000 in
theorem laid_met (os : Os) : laidMet Tryd.prog Rows.primTextsRow.laid ((laidWorld os).forCall (fun _ _ => 0) ⟨#[], #[.string ⟨#[]⟩, .string ⟨#[]⟩, .agg #[.bool false, .slice none 0 0]], []⟩).memory := laidMet_of_run' 8 (by kernel_rfl) (by kernel_rfl)
set_option maxRecDepth 100000 in
theorem reads (os : Os) {H : Type} (enc : TypeId × Value → H) : ∃ places, DataW.whole enc Tryd.prog ((laidWorld os).forCall (fun _ _ => 0) ⟨#[], #[.string ⟨#[]⟩, .string ⟨#[]⟩, .agg #[.bool false, .slice none 0 0]], []⟩).memory Tryd.f3.params.toList Rows.primTextsSpec.vars false (#[.string ⟨#[]⟩, .string ⟨#[]⟩, .agg #[.bool false, .slice none 0 0]] : Array Value).toList 8 = some ([.lit (.string []), .lit (.string []), .agg [.lit (.bool false), .nil]], [], places) := ⟨[], by kernel_rfl⟩

set_option maxRecDepth 100000 in
theorem lifted (os : Os) (started : os.Started) (H : Type) (enc : TypeId × Value → H) (F : Stop.Interp) :
    ReturnsInHanded {} Tryd.checked os 3 .any ((OpenSpec.ofChange Rows.primTextsSpec).preRow enc Tryd.prog Tryd.f3 Rows.primTextsRow.domain false Rows.primTextsRow.laid) (((OpenSpec.ofChange Rows.primTextsSpec).at F).post enc Tryd.prog Tryd.f3 false true false false) := by
  obtain ⟨places, hx⟩ := reads os enc
  refine returnsInHanded_of_row (C := Tryd.checked) (s := OpenSpec.ofChange Rows.primTextsSpec) own started (by kernel_rfl) Tryd.func3
    (witness_row_at (enc := enc) (C := Tryd.checked) false (laidWorld os) #[.string ⟨#[]⟩, .string ⟨#[]⟩, .agg #[.bool false, .slice none 0 0]] rfl (by kernel_rfl) (by kernel_rfl) (by kernel_rfl)
      (OpenSpec.preRow_of_cond 8 hx (by kernel_rfl) (fun k hk => by cases hk) (by kernel_rfl) (laid_met os))) ?_
  intro W base args ds gs before hval hW _ _ hwt hL _ _
  exact contract H enc W base args ds gs before hval hW hwt hL

theorem said : Rows.PrimTextsSaid :=
  OpenClaim.holds_of_cond 3 Tryd.f3 rfl rfl rfl rfl rfl rfl rfl ⟨rfl, rfl, rfl, rfl, rfl⟩ rfl rfl rfl rfl rfl (by kernel_rfl) Tryd.func3 (by kernel_rfl)
    (of_decide_eq_true (by kernel_rfl)) (by unfold Func.isWrapper; first | (rw [if_pos (by decide +kernel)]; kernel_rfl) | (rw [if_neg (by decide +kernel)]; exact ⟨rfl, rfl⟩))
    (fun os started H enc _ F => by rw [OpenClaim.pre_eq_preRow]; exact lifted os started H enc F)

theorem plain (f : FuncId) (fn : Func) (hf : Tryd.pinned.checked.prog.funcNamed "pavane/pavanelaw09.PrimTexts" = some f) (hfn : Tryd.pinned.checked.prog.funcs[f]? = some fn) :
    false = Tryd.pinned.checked.prog.looks [] ∧ ∀ (j : Nat) t, fn.params[j]? = some t → Tryd.pinned.checked.prog.wantsStandIn t = false := by
  obtain rfl : f = 3 := Option.some.inj ((show Tryd.prog.funcNamed "pavane/pavanelaw09.PrimTexts" = some 3 by kernel_rfl).symm.trans hf) |>.symm
  obtain rfl : fn = Tryd.f3 := (Option.some.inj (Tryd.func3.symm.trans hfn)).symm
  refine ⟨by kernel_rfl, fun j t ht => ?_⟩
  rw [Tryd.params3] at ht
  have hall : ([9, 9, 24].all fun t => !(Tryd.prog.wantsStandIn t)) = true := by kernel_rfl
  have hm : t ∈ [9, 9, 24] := by simpa using Array.mem_of_getElem? ht
  have := List.all_eq_true.1 hall t hm
  simp only [Bool.not_eq_true'] at this
  exact this
end Go.Proofs.YtdaidpomfkgbeaaDoor.primTexts

namespace Go.Proofs.YtdaidpomfkgbeaaDoor
theorem primTexts_holds : Rows.PrimTextsCardSaid :=
  Claim7.holds_tied_plain_at .later [] _ _ _ _ primTexts.said (fun _ h => by cases h) (by kernel_rfl) (fun _ h => by cases h) primTexts_row_tie rfl ⟨rfl, rfl⟩ (by kernel_rfl) rfl primTexts.plain (by kernel_rfl)
#print axioms primTexts_holds
end Go.Proofs.YtdaidpomfkgbeaaDoor
