/- slices.Grow of the nil slice, strings.IndexByte: walked in the world; told to the engine. -/
import Derived.Test.YtmclabehpfpnnaaDoorN3
import Derived.Test.YtmclabehpfpnnaaDoorK0
import Derived.Test.YtmclabehpfpnnaaDoorE16
import Derived.Lib.AppendZerosOnto
import Derived.Lib.SliceRun
import Derived.Lib.Bytealg
import Derived.Test.YtmclabehpfpnnaaDoorN9
import Derived.Test.YtmclabehpfpnnaaDoorP4
set_option linter.unusedSimpArgs false
set_option linter.unusedVariables false
namespace Go.Proofs.Pv
open Go Go.RowKit Go.Proofs
set_option maxRecDepth 100000

theorem info_dat : (Tryd.prog.info? 27).map (fun i => (i.zero, i.size, i.bytes)) = some (some (.agg #[.int .i64 0, .bool false, .slice none 0 0, .bool false, .string ⟨#[]⟩, .slice none 0 0, .slice none 0 0]), 7, 112) := by kernel_rfl
theorem n_Grow0 (w : World) : Calls Tryd.prog 134 #[.slice none 0 0, .int .i64 0] w fun e w' => e = .returned (.slice none 0 0) ∧ w' = w := by
  go_enter Tryd.func134, Tryd.ntmps134
  go_wp2
  go_ret
  exact ⟨rfl, rfl⟩
set_option maxHeartbeats 4000000 in
theorem n_Grow (n : Nat) (h0 : 0 < n) (hn : n ≤ 1000000) (w : World) :
    Calls Tryd.prog 134 #[.slice none 0 0, .int .i64 n] w fun e w' => ∃ G : Nat, n ≤ G ∧ e = .returned (.slice (some ⟨w.heap.size, 0, none⟩) 0 G) ∧ ∃ c : Array Value, c.size = G * 7 ∧ w' = w.drew.alloc (.cells c 27) := by
  obtain ⟨i0, hi, hz0, hz1, hz2⟩ := info_parts info_dat
  have u1 : Tryd.prog.underlying 25 = some (.slice 27) := by kernel_rfl
  have u2 : Tryd.prog.underlying 3 = some (.int .i64) := by kernel_rfl
  have hold : (Builtin.firstCells i0.size 0 (.slice none 0 0)).run Tryd.prog w.drew = .ok (#[] : Array Value) w.drew := run_firstCells_none w.drew i0.size 0 0 0
  have hrz : ∀ ty, (Builtin.append_ #[25, 3] ty #[.slice none 0 0, .int .i64 (n : Int)]).run Tryd.prog w = _ := fun ty => Lib.run_append_grow_zeros w 25 3 ty 27 i0 _ .i64 .i64 u1 u2 hi hz0 none 0 0 [] hold n h0 (by rw [hz1]; decide) (by omega) (by omega) (by rw [hz2]; omega) (growslice_fits (by omega) (by rw [hz2]; omega))
  obtain ⟨G, hG⟩ : ∃ G, G = grownCap w (0 + n) 0 27 := ⟨_, rfl⟩
  have hGn : 0 + n ≤ G := hG ▸ grownCap_ge w _ _ _
  have hG63 : G ≤ 9223372036854775807 := by
    have := grownCap_le_maxLen w (0 + n) 0 27 (by unfold maxLen; omega)
    rw [← hG] at this
    unfold maxLen at this
    omega
  rw [← hG] at hrz
  clear hold hG
  have h1 : ¬ ((n : Int) < 0) := by omega
  have h4 : (n : Int) > 0 := by omega
  have h3 : _root_.Go.RowKit.wrap64 (n : Int) = (n : Int) := by unfold _root_.Go.RowKit.wrap64; omega
  go_enter Tryd.func134, Tryd.ntmps134
  go_wp2_with (at_builtin; refine Lib.wpList_append_run _ rfl _ _ _ _ rfl _ _ rfl rfl _ _ (hrz _) ?_)
  all_goals (go_ret; refine ⟨G, by omega, rfl, _, ?_, rfl⟩)
  all_goals (simp only [Array.size_append, size_zeroCells, Value.cells, List.size_toArray, List.length_cons, List.length_nil]; omega)
def RGrow (xs : List AV) (st : St) (K : AV → St → Prop) : Prop := ∃ n : Nat, xs = [.val (.slice none 0 0), .val (.int .i64 (n : Int))] ∧ n ≤ 1000000 ∧ ∀ o T, App st T o 7 [] → K o T
theorem s_Grow : PSpec Tryd.prog 134 RGrow := by
  refine ⟨by kernel_rfl, fun w0 β st w vs xs K hI hv hR => ?_⟩
  obtain ⟨n, rfl, hn, h1⟩ := hR
  obtain rfl := vrels_vals (us := [.slice none 0 0, .int .i64 (n : Int)]) hv
  rcases Nat.eq_zero_or_pos n with h0 | h0
  · subst h0
    refine (n_Grow0 w).mono ?_
    rintro e w' ⟨rfl, rfl⟩
    exact ⟨_, _, [], _, rfl, by rw [List.append_nil]; exact hI, .val _, h1 _ _ (App.nil .refl)⟩
  · refine (n_Grow n h0 hn w).mono ?_
    rintro e w' ⟨G, hG, rfl, c, hc, rfl⟩
    have hI1 := (hI.grow_below (w' := w.drew) ⟨rfl, rfl, rfl, Nat.le_refl _, fun _ _ => rfl⟩).alloc c 27 [] (by simp) (fun j x hx => by simp at hx)
    have hlen := hI.len
    refine ⟨_, .own st.length 0 0 7, _, _, rfl, hI1, ?_, h1 _ _ ⟨.add _, .inr ⟨st.length, 0, [], Nat.le_refl _, rfl, by rw [get_app0]; rfl, rfl⟩⟩⟩
    refine .own (m := c.size) (by rw [← hlen]; simp) (by omega) (by omega) fun _ => ⟨rfl, by omega⟩

theorem n_IndexByte (s : ByteArray) (c : Int) (w : World) : Calls Tryd.prog 67 #[.string s, .int .u8 c] w fun e w' => e = .returned (.int .i64 (Lib.indexByte s.data.toList c.toNat.toUInt8)) ∧ w' = w := by
  go_enter Tryd.func67, Tryd.ntmps67
  go_wp2
  rw [run_callFunc_extern Tryd.func98 (by kernel_rfl) (by kernel_rfl) (by kernel_rfl) (e := Extern.BytealgIndexByte.indexByte) (by kernel_rfl)]
  rw [Lib.run_indexByteString]
  simp only [Result.andThen]
  rw [Oper.upon_value]
  go_wp2
  go_ret
  exact ⟨rfl, rfl⟩
def signI (c : Nat) : Int := if c = 43 then 0 else if c = 45 then 1 else if c = 46 then 2 else -1
theorem indexByte3 (c : Nat) (hc : c < 256) : Lib.indexByte (⟨#[43, 45, 46]⟩ : ByteArray).data.toList (c : Int).toNat.toUInt8 = signI c := by
  have : ∀ c : Fin 256, Lib.indexByte (⟨#[43, 45, 46]⟩ : ByteArray).data.toList ((c.val : Nat) : Int).toNat.toUInt8 = signI c.val := by decide +kernel
  exact this ⟨c, hc⟩
def RIxB (xs : List AV) (st : St) (K : AV → St → Prop) : Prop := ∃ c : Nat, xs = [.val (.string ⟨#[43, 45, 46]⟩), .val (.int .u8 (c : Int))] ∧ c < 256 ∧ K (.val (.int .i64 (signI c))) st
theorem s_IndexByteL : PSpec Tryd.prog 67 RIxB := by
  refine ⟨by kernel_rfl, fun w0 β st w vs xs K hI hv hR => ?_⟩
  obtain ⟨c, rfl, hc, hK⟩ := hR
  obtain rfl := vrels_vals (us := [.string ⟨#[43, 45, 46]⟩, .int .u8 (c : Int)]) hv
  refine (n_IndexByte _ _ w).mono ?_
  rintro e w' ⟨rfl, rfl⟩
  exact ⟨_, _, [], _, rfl, by rw [List.append_nil]; exact hI, .val _, by rw [indexByte3 c hc]; exact hK⟩
theorem s_IndexByte : PSpec Tryd.prog 36 RIxB := by
  refine fspec_of (fn := Tryd.f36) 2 [.tmp 4] (by kernel_rfl) rfl rfl (by kernel_rfl) mixed (by rintro _ _ _ ⟨c, rfl, _⟩; rfl) ?_
  rintro X _ st K hP hst ⟨c, rfl, hc, hK⟩
  refine vc_V ?_
  simp (disch:=first|assumption|omega|(simp only [lens];omega)) only [eqs,↓gvd_succ,↓gvd_zero,↓and_of,im_of,im_of trivial,vlt,hP,hst,initS,Nat.reduceBEq,Nat.reduceAdd,Nat.reduceMul,Nat.reduceSub,Nat.reduceDiv,Nat.reduceMod,Nat.reducePow,Nat.reduceLT,Nat.reduceLeDiff,Nat.reduceEqDiff,Int.reduceAdd,Int.reduceSub,Int.reduceNeg,Int.reduceMul,Int.reduceToNat,Int.reducePow,Int.reduceLE,Int.reduceLT,Int.reduceEq,Int.reduceNe,reduceIte,reduceCtorEq,ne_eq,not_true_eq_false,not_false_eq_true,imp_self,implies_true,bls,eq_self]
  refine E_call (hP ▸ s_IndexByteL) ⟨c, rfl, hc, ?_⟩
  simp (disch:=first|assumption|omega|(simp only [lens];omega)) only [eqs,↓gvd_succ,↓gvd_zero,↓and_of,im_of,im_of trivial,vlt,hP,hst,initS,Nat.reduceBEq,Nat.reduceAdd,Nat.reduceMul,Nat.reduceSub,Nat.reduceDiv,Nat.reduceMod,Nat.reducePow,Nat.reduceLT,Nat.reduceLeDiff,Nat.reduceEqDiff,Int.reduceAdd,Int.reduceSub,Int.reduceNeg,Int.reduceMul,Int.reduceToNat,Int.reducePow,Int.reduceLE,Int.reduceLT,Int.reduceEq,Int.reduceNe,reduceIte,reduceCtorEq,ne_eq,not_true_eq_false,not_false_eq_true,imp_self,implies_true,bls,eq_self]
  exact hK
end Go.Proofs.Pv

/- slices.Concat of data, datum.parts, Depth, Norm. -/
namespace Go.Proofs.Pv
open Go Go.RowKit Go.Proofs
set_option maxRecDepth 20000

theorem ty_dss : ti Tryd.prog 130 = .slice 25 1 24 [.slice none 0 0] [.slice none 0 0] := by kernel_rfl
theorem App.dS {st T : St} {o : AV} {cs : List AV} {ds : List Dt} (h : App st T o 7 cs) (hd : DL st cs ds) : DS T o ds := by
  have hl := hd.len
  rcases h.2 with ⟨rfl, rfl⟩ | ⟨r, n, rest, h1, rfl, h3, h4⟩
  · have : ds = [] := by
      cases ds with
      | nil => rfl
      | cons d ds => simp at hl
    subst this
    exact DS.nil
  · obtain rfl : n = ds.length := by omega
    refine .mk (cs := cs) ?_ (hd.ext h.1)
    rw [sl_own_eq, if_pos rfl, h3]
    simp [← h4]
def RConc (xs : List AV) (st : St) (K : AV → St → Prop) : Prop := ∃ r a b rest ds es, xs = [.own r 0 2 1] ∧ st[r]? = some (some (a :: b :: rest)) ∧ DS st a ds ∧ DS st b es ∧ ds.length + es.length ≤ 1000000 ∧ ∀ x T, Ext st T → DS T x (ds ++ es) → K x T
set_option maxHeartbeats 1000000 in
theorem s_Concat : PSpec Tryd.prog 121 RConc := by
  refine fspec_of (fn := Tryd.f121) 1 [.tmp 2] (by kernel_rfl) rfl rfl (by kernel_rfl) mixed (by rintro _ _ _ ⟨_, _, _, _, _, _, rfl, _⟩; rfl) ?_
  rintro X _ st K hP hst ⟨r, a, b, rest, ds, es, rfl, hr, ha, hb, hlen, hK⟩
  obtain ⟨ca, hsa, hda, hla⟩ := ha.inv
  obtain ⟨cb, hsb, hdb, hlb⟩ := hb.inv
  have la := ha.leaf
  have lb := hb.leaf
  have hmin : min 2 (a :: b :: rest).length = 2 := by simp
  refine vc_V ?_
  simp (disch:=first|assumption|omega|(simp only [lens];omega)) only [eqs,↓gvd_succ,↓gvd_zero,↓and_of,im_of,im_of trivial,vlt,hP,hst,initS,Nat.reduceBEq,Nat.reduceAdd,Nat.reduceMul,Nat.reduceSub,Nat.reduceDiv,Nat.reduceMod,Nat.reducePow,Nat.reduceLT,Nat.reduceLeDiff,Nat.reduceEqDiff,Int.reduceAdd,Int.reduceSub,Int.reduceNeg,Int.reduceMul,Int.reduceToNat,Int.reducePow,Int.reduceLE,Int.reduceLT,Int.reduceEq,Int.reduceNe,reduceIte,reduceCtorEq,ne_eq,not_true_eq_false,not_false_eq_true,imp_self,implies_true,bls,eq_self,ty_dss,hr,hmin]
  have hpre : ∀ j, (pre2 ds es j).length ≤ 1000000 := fun j => by
    unfold pre2
    split
    · simp
    · omega
    · simp; omega
  refine V_loop (ι := Nat) (fun j => [(11, .val (.int .i64 (j : Int))), (10, .val (.int .i64 2)), (9, .own r 0 2 1), (3, .val (.int .i64 ((pre2 ds es j).length : Int))), (0, .own r 0 2 1)]) (fun _ => st) (fun j => j ≤ 2) (fun j => 2 - j) 0 (by simp) rfl (by simp (disch:=first|assumption|omega|(simp only [lens];omega)) only [eqs,↓gvd_succ,↓gvd_zero,↓and_of,im_of,im_of trivial,vlt,hP,hst,initS,Nat.reduceBEq,Nat.reduceAdd,Nat.reduceMul,Nat.reduceSub,Nat.reduceDiv,Nat.reduceMod,Nat.reducePow,Nat.reduceLT,Nat.reduceLeDiff,Nat.reduceEqDiff,Int.reduceAdd,Int.reduceSub,Int.reduceNeg,Int.reduceMul,Int.reduceToNat,Int.reducePow,Int.reduceLE,Int.reduceLT,Int.reduceEq,Int.reduceNe,reduceIte,reduceCtorEq,ne_eq,not_true_eq_false,not_false_eq_true,imp_self,implies_true,bls,eq_self] <;> rfl) ?_
  rintro j hj
  simp (disch:=first|assumption|omega|(simp only [lens];omega)) only [eqs,↓gvd_succ,↓gvd_zero,↓and_of,im_of,im_of trivial,vlt,hP,hst,initS,Nat.reduceBEq,Nat.reduceAdd,Nat.reduceMul,Nat.reduceSub,Nat.reduceDiv,Nat.reduceMod,Nat.reducePow,Nat.reduceLT,Nat.reduceLeDiff,Nat.reduceEqDiff,Int.reduceAdd,Int.reduceSub,Int.reduceNeg,Int.reduceMul,Int.reduceToNat,Int.reducePow,Int.reduceLE,Int.reduceLT,Int.reduceEq,Int.reduceNe,reduceIte,reduceCtorEq,ne_eq,not_true_eq_false,not_false_eq_true,imp_self,implies_true,bls,eq_self]
  refine C_dec (fun h1 => ?_) (fun h1 => ?_)
  · have hj2 : j = 0 ∨ j = 1 := by omega
    have w0 : IntKind.i64.wrap (((pre2 ds es 0).length : Int) + (ds.length : Int)) = ((pre2 ds es 1).length : Int) := by rw [IntKind.wrap_i64]; simp only [pre2, List.length_nil]; omega
    have w1 : IntKind.i64.wrap (((pre2 ds es 1).length : Int) + (es.length : Int)) = ((pre2 ds es 2).length : Int) := by rw [IntKind.wrap_i64]; simp only [pre2, List.length_append]; omega
    rcases hj2 with rfl | rfl
    · simp (disch:=first|assumption|omega|(simp only [lens];omega)) only [eqs,↓gvd_succ,↓gvd_zero,↓and_of,im_of,im_of trivial,vlt,hP,hst,initS,Nat.reduceBEq,Nat.reduceAdd,Nat.reduceMul,Nat.reduceSub,Nat.reduceDiv,Nat.reduceMod,Nat.reducePow,Nat.reduceLT,Nat.reduceLeDiff,Nat.reduceEqDiff,Int.reduceAdd,Int.reduceSub,Int.reduceNeg,Int.reduceMul,Int.reduceToNat,Int.reducePow,Int.reduceLE,Int.reduceLT,Int.reduceEq,Int.reduceNe,reduceIte,reduceCtorEq,ne_eq,not_true_eq_false,not_false_eq_true,imp_self,implies_true,bls,eq_self,ty_dss,hr,la,hsa,w0]
      refine C_dec (fun h => absurd h (by omega)) (fun h => ?_)
      simp (disch:=first|assumption|omega|(simp only [lens];omega)) only [eqs,↓gvd_succ,↓gvd_zero,↓and_of,im_of,im_of trivial,vlt,hP,hst,initS,Nat.reduceBEq,Nat.reduceAdd,Nat.reduceMul,Nat.reduceSub,Nat.reduceDiv,Nat.reduceMod,Nat.reducePow,Nat.reduceLT,Nat.reduceLeDiff,Nat.reduceEqDiff,Int.reduceAdd,Int.reduceSub,Int.reduceNeg,Int.reduceMul,Int.reduceToNat,Int.reducePow,Int.reduceLE,Int.reduceLT,Int.reduceEq,Int.reduceNe,reduceIte,reduceCtorEq,ne_eq,not_true_eq_false,not_false_eq_true,imp_self,implies_true,bls,eq_self]
      exact again 1 (by omega) (by omega) rfl (by simp (disch:=first|assumption|omega|(simp only [lens];omega)) only [eqs,↓gvd_succ,↓gvd_zero,↓and_of,im_of,im_of trivial,vlt,hP,hst,initS,Nat.reduceBEq,Nat.reduceAdd,Nat.reduceMul,Nat.reduceSub,Nat.reduceDiv,Nat.reduceMod,Nat.reducePow,Nat.reduceLT,Nat.reduceLeDiff,Nat.reduceEqDiff,Int.reduceAdd,Int.reduceSub,Int.reduceNeg,Int.reduceMul,Int.reduceToNat,Int.reducePow,Int.reduceLE,Int.reduceLT,Int.reduceEq,Int.reduceNe,reduceIte,reduceCtorEq,ne_eq,not_true_eq_false,not_false_eq_true,imp_self,implies_true,bls,eq_self] <;> rfl)
    · simp (disch:=first|assumption|omega|(simp only [lens];omega)) only [eqs,↓gvd_succ,↓gvd_zero,↓and_of,im_of,im_of trivial,vlt,hP,hst,initS,Nat.reduceBEq,Nat.reduceAdd,Nat.reduceMul,Nat.reduceSub,Nat.reduceDiv,Nat.reduceMod,Nat.reducePow,Nat.reduceLT,Nat.reduceLeDiff,Nat.reduceEqDiff,Int.reduceAdd,Int.reduceSub,Int.reduceNeg,Int.reduceMul,Int.reduceToNat,Int.reducePow,Int.reduceLE,Int.reduceLT,Int.reduceEq,Int.reduceNe,reduceIte,reduceCtorEq,ne_eq,not_true_eq_false,not_false_eq_true,imp_self,implies_true,bls,eq_self,ty_dss,hr,lb,hsb,w1]
      refine C_dec (fun h => absurd h (by omega)) (fun h => ?_)
      simp (disch:=first|assumption|omega|(simp only [lens];omega)) only [eqs,↓gvd_succ,↓gvd_zero,↓and_of,im_of,im_of trivial,vlt,hP,hst,initS,Nat.reduceBEq,Nat.reduceAdd,Nat.reduceMul,Nat.reduceSub,Nat.reduceDiv,Nat.reduceMod,Nat.reducePow,Nat.reduceLT,Nat.reduceLeDiff,Nat.reduceEqDiff,Int.reduceAdd,Int.reduceSub,Int.reduceNeg,Int.reduceMul,Int.reduceToNat,Int.reducePow,Int.reduceLE,Int.reduceLT,Int.reduceEq,Int.reduceNe,reduceIte,reduceCtorEq,ne_eq,not_true_eq_false,not_false_eq_true,imp_self,implies_true,bls,eq_self]
      exact again 2 (by omega) (by omega) rfl (by simp (disch:=first|assumption|omega|(simp only [lens];omega)) only [eqs,↓gvd_succ,↓gvd_zero,↓and_of,im_of,im_of trivial,vlt,hP,hst,initS,Nat.reduceBEq,Nat.reduceAdd,Nat.reduceMul,Nat.reduceSub,Nat.reduceDiv,Nat.reduceMod,Nat.reducePow,Nat.reduceLT,Nat.reduceLeDiff,Nat.reduceEqDiff,Int.reduceAdd,Int.reduceSub,Int.reduceNeg,Int.reduceMul,Int.reduceToNat,Int.reducePow,Int.reduceLE,Int.reduceLT,Int.reduceEq,Int.reduceNe,reduceIte,reduceCtorEq,ne_eq,not_true_eq_false,not_false_eq_true,imp_self,implies_true,bls,eq_self] <;> rfl)
  · obtain rfl : j = 2 := by omega
    simp (disch:=first|assumption|omega|(simp only [lens];omega)) only [eqs,↓gvd_succ,↓gvd_zero,↓and_of,im_of,im_of trivial,vlt,hP,hst,initS,Nat.reduceBEq,Nat.reduceAdd,Nat.reduceMul,Nat.reduceSub,Nat.reduceDiv,Nat.reduceMod,Nat.reducePow,Nat.reduceLT,Nat.reduceLeDiff,Nat.reduceEqDiff,Int.reduceAdd,Int.reduceSub,Int.reduceNeg,Int.reduceMul,Int.reduceToNat,Int.reducePow,Int.reduceLE,Int.reduceLT,Int.reduceEq,Int.reduceNe,reduceIte,reduceCtorEq,ne_eq,not_true_eq_false,not_false_eq_true,imp_self,implies_true,bls,eq_self]
    refine E_call (hP ▸ s_Grow) ⟨(pre2 ds es 2).length, rfl, hpre 2, fun o T hA => ?_⟩
    have e0 := hA.ex
    have lo : leaf o = true := by rcases hA.2 with ⟨rfl, _⟩ | ⟨r, n, rest, _, rfl, _⟩ <;> rfl
    have gr : T[r]? = some (some (a :: b :: rest)) := (At.ext ⟨hr⟩ e0 : At T r _).get
    simp (disch:=first|assumption|omega|(simp only [lens];omega)) only [eqs,↓gvd_succ,↓gvd_zero,↓and_of,im_of,im_of trivial,vlt,hP,hst,initS,Nat.reduceBEq,Nat.reduceAdd,Nat.reduceMul,Nat.reduceSub,Nat.reduceDiv,Nat.reduceMod,Nat.reducePow,Nat.reduceLT,Nat.reduceLeDiff,Nat.reduceEqDiff,Int.reduceAdd,Int.reduceSub,Int.reduceNeg,Int.reduceMul,Int.reduceToNat,Int.reducePow,Int.reduceLE,Int.reduceLT,Int.reduceEq,Int.reduceNe,reduceIte,reduceCtorEq,ne_eq,not_true_eq_false,not_false_eq_true,imp_self,implies_true,bls,eq_self,ty_dss,gr,hmin,lo]
    refine V_loop (ι := Nat × AV × St) (fun e => [(27, .val (.int .i64 (e.1 : Int))), (26, .val (.int .i64 2)), (25, .own r 0 2 1), (6, e.2.1)]) (fun e => e.2.2) (fun e => e.1 ≤ 2 ∧ ∃ cs, App st e.2.2 e.2.1 7 cs ∧ DL st cs (pre2 ds es e.1)) (fun e => 2 - e.1) (0, o, T) ⟨by simp, [], hA, .nil⟩ rfl (by simp (disch:=first|assumption|omega|(simp only [lens];omega)) only [eqs,↓gvd_succ,↓gvd_zero,↓and_of,im_of,im_of trivial,vlt,hP,hst,initS,Nat.reduceBEq,Nat.reduceAdd,Nat.reduceMul,Nat.reduceSub,Nat.reduceDiv,Nat.reduceMod,Nat.reducePow,Nat.reduceLT,Nat.reduceLeDiff,Nat.reduceEqDiff,Int.reduceAdd,Int.reduceSub,Int.reduceNeg,Int.reduceMul,Int.reduceToNat,Int.reducePow,Int.reduceLE,Int.reduceLT,Int.reduceEq,Int.reduceNe,reduceIte,reduceCtorEq,ne_eq,not_true_eq_false,not_false_eq_true,imp_self,implies_true,bls,eq_self] <;> rfl) ?_
    rintro ⟨i, o, T⟩ ⟨hi, cs, hA, hd⟩
    dsimp only at hi hA hd ⊢
    have lo : leaf o = true := by rcases hA.2 with ⟨rfl, _⟩ | ⟨r, n, rest, _, rfl, _⟩ <;> rfl
    have gr : T[r]? = some (some (a :: b :: rest)) := (At.ext ⟨hr⟩ hA.ex : At T r _).get
    have hdl := hd.len
    have hpi := hpre i
    simp (disch:=first|assumption|omega|(simp only [lens];omega)) only [eqs,↓gvd_succ,↓gvd_zero,↓and_of,im_of,im_of trivial,vlt,hP,hst,initS,Nat.reduceBEq,Nat.reduceAdd,Nat.reduceMul,Nat.reduceSub,Nat.reduceDiv,Nat.reduceMod,Nat.reducePow,Nat.reduceLT,Nat.reduceLeDiff,Nat.reduceEqDiff,Int.reduceAdd,Int.reduceSub,Int.reduceNeg,Int.reduceMul,Int.reduceToNat,Int.reducePow,Int.reduceLE,Int.reduceLT,Int.reduceEq,Int.reduceNe,reduceIte,reduceCtorEq,ne_eq,not_true_eq_false,not_false_eq_true,imp_self,implies_true,bls,eq_self]
    refine C_dec (fun h1 => ?_) (fun h1 => ?_)
    · have hj2 : i = 0 ∨ i = 1 := by omega
      rcases hj2 with rfl | rfl
      · simp (disch:=first|assumption|omega|(simp only [lens];omega)) only [eqs,↓gvd_succ,↓gvd_zero,↓and_of,im_of,im_of trivial,vlt,hP,hst,initS,Nat.reduceBEq,Nat.reduceAdd,Nat.reduceMul,Nat.reduceSub,Nat.reduceDiv,Nat.reduceMod,Nat.reducePow,Nat.reduceLT,Nat.reduceLeDiff,Nat.reduceEqDiff,Int.reduceAdd,Int.reduceSub,Int.reduceNeg,Int.reduceMul,Int.reduceToNat,Int.reducePow,Int.reduceLE,Int.reduceLT,Int.reduceEq,Int.reduceNe,reduceIte,reduceCtorEq,ne_eq,not_true_eq_false,not_false_eq_true,imp_self,implies_true,bls,eq_self,ty_dss,gr,la,lo]
        have hsT : Pv.sl 7 T a = some (ds.length, ca) := by
          obtain ⟨z, rfl⟩ := hA.ex
          exact sl_grow hsa z
        refine F_app hA hst (sl_slc hsT).1 hla hda.all (by simp only [pre2, List.length_nil] at hdl; omega) (by omega) (by simp only [pre2, List.length_nil] at hdl; omega) fun o' T' hA' => ?_
        simp (disch:=first|assumption|omega|(simp only [lens];omega)) only [eqs,↓gvd_succ,↓gvd_zero,↓and_of,im_of,im_of trivial,vlt,hP,hst,initS,Nat.reduceBEq,Nat.reduceAdd,Nat.reduceMul,Nat.reduceSub,Nat.reduceDiv,Nat.reduceMod,Nat.reducePow,Nat.reduceLT,Nat.reduceLeDiff,Nat.reduceEqDiff,Int.reduceAdd,Int.reduceSub,Int.reduceNeg,Int.reduceMul,Int.reduceToNat,Int.reducePow,Int.reduceLE,Int.reduceLT,Int.reduceEq,Int.reduceNe,reduceIte,reduceCtorEq,ne_eq,not_true_eq_false,not_false_eq_true,imp_self,implies_true,bls,eq_self]
        exact again (1, o', T') ⟨by simp, _, hA', by simpa [pre2] using hd.app hda⟩ (by simp) rfl (by simp (disch:=first|assumption|omega|(simp only [lens];omega)) only [eqs,↓gvd_succ,↓gvd_zero,↓and_of,im_of,im_of trivial,vlt,hP,hst,initS,Nat.reduceBEq,Nat.reduceAdd,Nat.reduceMul,Nat.reduceSub,Nat.reduceDiv,Nat.reduceMod,Nat.reducePow,Nat.reduceLT,Nat.reduceLeDiff,Nat.reduceEqDiff,Int.reduceAdd,Int.reduceSub,Int.reduceNeg,Int.reduceMul,Int.reduceToNat,Int.reducePow,Int.reduceLE,Int.reduceLT,Int.reduceEq,Int.reduceNe,reduceIte,reduceCtorEq,ne_eq,not_true_eq_false,not_false_eq_true,imp_self,implies_true,bls,eq_self] <;> rfl)
      · simp (disch:=first|assumption|omega|(simp only [lens];omega)) only [eqs,↓gvd_succ,↓gvd_zero,↓and_of,im_of,im_of trivial,vlt,hP,hst,initS,Nat.reduceBEq,Nat.reduceAdd,Nat.reduceMul,Nat.reduceSub,Nat.reduceDiv,Nat.reduceMod,Nat.reducePow,Nat.reduceLT,Nat.reduceLeDiff,Nat.reduceEqDiff,Int.reduceAdd,Int.reduceSub,Int.reduceNeg,Int.reduceMul,Int.reduceToNat,Int.reducePow,Int.reduceLE,Int.reduceLT,Int.reduceEq,Int.reduceNe,reduceIte,reduceCtorEq,ne_eq,not_true_eq_false,not_false_eq_true,imp_self,implies_true,bls,eq_self,ty_dss,gr,lb,lo]
        have hsT : Pv.sl 7 T b = some (es.length, cb) := by
          obtain ⟨z, rfl⟩ := hA.ex
          exact sl_grow hsb z
        refine F_app hA hst (sl_slc hsT).1 hlb hdb.all (by simp only [pre2, List.length_nil] at hdl; omega) (by omega) (by simp only [pre2, List.length_nil] at hdl; omega) fun o' T' hA' => ?_
        simp (disch:=first|assumption|omega|(simp only [lens];omega)) only [eqs,↓gvd_succ,↓gvd_zero,↓and_of,im_of,im_of trivial,vlt,hP,hst,initS,Nat.reduceBEq,Nat.reduceAdd,Nat.reduceMul,Nat.reduceSub,Nat.reduceDiv,Nat.reduceMod,Nat.reducePow,Nat.reduceLT,Nat.reduceLeDiff,Nat.reduceEqDiff,Int.reduceAdd,Int.reduceSub,Int.reduceNeg,Int.reduceMul,Int.reduceToNat,Int.reducePow,Int.reduceLE,Int.reduceLT,Int.reduceEq,Int.reduceNe,reduceIte,reduceCtorEq,ne_eq,not_true_eq_false,not_false_eq_true,imp_self,implies_true,bls,eq_self]
        exact again (2, o', T') ⟨by simp, _, hA', by simpa [pre2] using hd.app hdb⟩ (by simp) rfl (by simp (disch:=first|assumption|omega|(simp only [lens];omega)) only [eqs,↓gvd_succ,↓gvd_zero,↓and_of,im_of,im_of trivial,vlt,hP,hst,initS,Nat.reduceBEq,Nat.reduceAdd,Nat.reduceMul,Nat.reduceSub,Nat.reduceDiv,Nat.reduceMod,Nat.reducePow,Nat.reduceLT,Nat.reduceLeDiff,Nat.reduceEqDiff,Int.reduceAdd,Int.reduceSub,Int.reduceNeg,Int.reduceMul,Int.reduceToNat,Int.reducePow,Int.reduceLE,Int.reduceLT,Int.reduceEq,Int.reduceNe,reduceIte,reduceCtorEq,ne_eq,not_true_eq_false,not_false_eq_true,imp_self,implies_true,bls,eq_self] <;> rfl)
    · obtain rfl : i = 2 := by omega
      simp (disch:=first|assumption|omega|(simp only [lens];omega)) only [eqs,↓gvd_succ,↓gvd_zero,↓and_of,im_of,im_of trivial,vlt,hP,hst,initS,Nat.reduceBEq,Nat.reduceAdd,Nat.reduceMul,Nat.reduceSub,Nat.reduceDiv,Nat.reduceMod,Nat.reducePow,Nat.reduceLT,Nat.reduceLeDiff,Nat.reduceEqDiff,Int.reduceAdd,Int.reduceSub,Int.reduceNeg,Int.reduceMul,Int.reduceToNat,Int.reducePow,Int.reduceLE,Int.reduceLT,Int.reduceEq,Int.reduceNe,reduceIte,reduceCtorEq,ne_eq,not_true_eq_false,not_false_eq_true,imp_self,implies_true,bls,eq_self,lo]
      exact hK _ _ hA.ex (hA.dS hd)
def RParts (xs : List AV) (st : St) (K : AV → St → Prop) : Prop := ∃ x d, xs = [x] ∧ DA st x d ∧ d.its.length + d.tls.length ≤ 1000000 ∧ ∀ y T, Ext st T → DS T y (d.its ++ d.tls) → K y T
theorem s_parts : PSpec Tryd.prog 95 RParts := by
  refine fspec_of (fn := Tryd.f95) 1 [.tmp 2] (by kernel_rfl) rfl rfl (by kernel_rfl) mixed (by rintro _ _ _ ⟨x, d, rfl, _⟩; rfl) ?_
  rintro X _ st K hP hst ⟨x, d, rfl, hx, hN, hK⟩
  obtain ⟨k, g, a, l, b, s, x, y, its, tls, rfl, rfl, ha, hxs, hy⟩ := hx.inv
  have la := ha.leaf
  have lx := hxs.leaf
  have ly := hy.leaf
  have z2 : zrow 2 [Value.slice none 0 0] = [.val (.slice none 0 0), .val (.slice none 0 0)] := rfl
  refine vc_V ?_
  simp (disch:=first|assumption|omega|(simp only [lens];omega)) only [eqs,↓gvd_succ,↓gvd_zero,↓and_of,im_of,im_of trivial,vlt,hP,hst,initS,Nat.reduceBEq,Nat.reduceAdd,Nat.reduceMul,Nat.reduceSub,Nat.reduceDiv,Nat.reduceMod,Nat.reducePow,Nat.reduceLT,Nat.reduceLeDiff,Nat.reduceEqDiff,Int.reduceAdd,Int.reduceSub,Int.reduceNeg,Int.reduceMul,Int.reduceToNat,Int.reducePow,Int.reduceLE,Int.reduceLT,Int.reduceEq,Int.reduceNe,reduceIte,reduceCtorEq,ne_eq,not_true_eq_false,not_false_eq_true,imp_self,implies_true,bls,eq_self,la,lx,ly,ty_dss,z2]
  refine E_call (hP ▸ s_Concat) ⟨st.length + 1, x, y, [], its, tls, rfl, by rw [get_app]; rfl, hxs.ext (.add _), hy.ext (.add _), hN, fun o T eT hT => ?_⟩
  simp (disch:=first|assumption|omega|(simp only [lens];omega)) only [eqs,↓gvd_succ,↓gvd_zero,↓and_of,im_of,im_of trivial,vlt,hP,hst,initS,Nat.reduceBEq,Nat.reduceAdd,Nat.reduceMul,Nat.reduceSub,Nat.reduceDiv,Nat.reduceMod,Nat.reducePow,Nat.reduceLT,Nat.reduceLeDiff,Nat.reduceEqDiff,Int.reduceAdd,Int.reduceSub,Int.reduceNeg,Int.reduceMul,Int.reduceToNat,Int.reducePow,Int.reduceLE,Int.reduceLT,Int.reduceEq,Int.reduceNe,reduceIte,reduceCtorEq,ne_eq,not_true_eq_false,not_false_eq_true,imp_self,implies_true,bls,eq_self]
  exact hK _ _ ((Ext.add _).trans eT) hT
def RDepth (N : Nat) (xs : List AV) (st : St) (K : AV → St → Prop) : Prop := ∃ x d, xs = [x] ∧ DA st x d ∧ d.sz < N ∧ anyw st (.int .i64 (if d.sz ≤ 100000 ∧ d.dp ≤ 10000 then (d.dp : Int) else 0)) K
set_option maxHeartbeats 1000000 in
theorem s_Depth (N : Nat) : PSpec Tryd.prog 62 (RDepth N) := by
  induction N with
  | zero =>
    refine fspec_of (fn := Tryd.f62) 1 [.tmp 2] (by kernel_rfl) rfl rfl (by kernel_rfl) mixed (by rintro _ _ _ ⟨x, d, rfl, _⟩; rfl) ?_
    rintro X _ st K hP hst ⟨x, d, rfl, hx, hN, _⟩
    omega
  | succ N ih =>
  refine fspec_of (fn := Tryd.f62) 1 [.tmp 2] (by kernel_rfl) rfl rfl (by kernel_rfl) mixed (by rintro _ _ _ ⟨x, d, rfl, _⟩; rfl) ?_
  rintro X _ st K hP hst ⟨x, d, rfl, hx, hN, hK⟩
  have hX : X.st1.length ≤ st.length := by rw [hst]; omega
  have hda := hx
  obtain ⟨c, rfl, hdc⟩ := hx
  have hca := hdc.all
  have hc7 := hdc.len
  have t7 := List.take_of_length_le (Nat.le_of_eq hc7)
  refine vc_V ?_
  simp (disch:=first|assumption|omega|(simp only [lens];omega)) only [eqs,↓gvd_succ,↓gvd_zero,↓and_of,im_of,im_of trivial,vlt,hP,hst,initS,Nat.reduceBEq,Nat.reduceAdd,Nat.reduceMul,Nat.reduceSub,Nat.reduceDiv,Nat.reduceMod,Nat.reducePow,Nat.reduceLT,Nat.reduceLeDiff,Nat.reduceEqDiff,Int.reduceAdd,Int.reduceSub,Int.reduceNeg,Int.reduceMul,Int.reduceToNat,Int.reducePow,Int.reduceLE,Int.reduceLT,Int.reduceEq,Int.reduceNe,reduceIte,reduceCtorEq,ne_eq,not_true_eq_false,not_false_eq_true,imp_self,implies_true,bls,eq_self,hca,hc7,t7]
  refine E_call (hP ▸ s_few) ⟨_, d, rfl, hda.ext (.add _), fun T eT => ?_⟩
  have gT := (At.ext (c := c) At.mk0 eT).get
  have e0 : Ext st T := (Ext.add _).trans eT
  simp (disch:=first|assumption|omega|(simp only [lens];omega)) only [eqs,↓gvd_succ,↓gvd_zero,↓and_of,im_of,im_of trivial,vlt,hP,hst,initS,Nat.reduceBEq,Nat.reduceAdd,Nat.reduceMul,Nat.reduceSub,Nat.reduceDiv,Nat.reduceMod,Nat.reducePow,Nat.reduceLT,Nat.reduceLeDiff,Nat.reduceEqDiff,Int.reduceAdd,Int.reduceSub,Int.reduceNeg,Int.reduceMul,Int.reduceToNat,Int.reducePow,Int.reduceLE,Int.reduceLT,Int.reduceEq,Int.reduceNe,reduceIte,reduceCtorEq,ne_eq,not_true_eq_false,not_false_eq_true,imp_self,implies_true,bls,eq_self]
  refine C_dec (fun hf => ?_) (fun hf => ?_)
  · rw [if_neg hf] at hK
    simp (disch:=first|assumption|omega|(simp only [lens];omega)) only [eqs,↓gvd_succ,↓gvd_zero,↓and_of,im_of,im_of trivial,vlt,hP,hst,initS,Nat.reduceBEq,Nat.reduceAdd,Nat.reduceMul,Nat.reduceSub,Nat.reduceDiv,Nat.reduceMod,Nat.reducePow,Nat.reduceLT,Nat.reduceLeDiff,Nat.reduceEqDiff,Int.reduceAdd,Int.reduceSub,Int.reduceNeg,Int.reduceMul,Int.reduceToNat,Int.reducePow,Int.reduceLE,Int.reduceLT,Int.reduceEq,Int.reduceNe,reduceIte,reduceCtorEq,ne_eq,not_true_eq_false,not_false_eq_true,imp_self,implies_true,bls,eq_self]
    exact hK _ e0
  have hf := Classical.not_not.1 hf
  rw [if_pos hf] at hK
  simp (disch:=first|assumption|omega|(simp only [lens];omega)) only [eqs,↓gvd_succ,↓gvd_zero,↓and_of,im_of,im_of trivial,vlt,hP,hst,initS,Nat.reduceBEq,Nat.reduceAdd,Nat.reduceMul,Nat.reduceSub,Nat.reduceDiv,Nat.reduceMod,Nat.reducePow,Nat.reduceLT,Nat.reduceLeDiff,Nat.reduceEqDiff,Int.reduceAdd,Int.reduceSub,Int.reduceNeg,Int.reduceMul,Int.reduceToNat,Int.reducePow,Int.reduceLE,Int.reduceLT,Int.reduceEq,Int.reduceNe,reduceIte,reduceCtorEq,ne_eq,not_true_eq_false,not_false_eq_true,imp_self,implies_true,bls,eq_self,gT,hc7,t7]
  obtain ⟨k, g, l, b, s, its, tls⟩ := d
  rw [sz_mk] at hN hf
  rw [dp_mk] at hf hK
  have hl1 := szs_len (ds := its)
  have hl2 := szs_len (ds := tls)
  refine E_call (hP ▸ s_parts) ⟨_, _, rfl, hda.ext e0, by show its.length + tls.length ≤ 1000000; omega, fun y T2 e2 hy => ?_⟩
  obtain ⟨L, hL⟩ : ∃ L, its ++ tls = L := ⟨_, rfl⟩
  have hLl : L.length ≤ 1000000 := by rw [← hL, List.length_append]; omega
  have hLs : szs L = szs its + szs tls := by rw [← hL, szs_app]
  have hLd : dps L = max (dps its) (dps tls) := by rw [← hL, dps_app]
  replace hy : DS T2 y L := hL ▸ hy
  clear hL
  obtain ⟨cs, hsl, hdl, hcl⟩ := hy.inv
  have ly := hy.leaf
  simp (disch:=first|assumption|omega|(simp only [lens];omega)) only [eqs,↓gvd_succ,↓gvd_zero,↓and_of,im_of,im_of trivial,vlt,hP,hst,initS,Nat.reduceBEq,Nat.reduceAdd,Nat.reduceMul,Nat.reduceSub,Nat.reduceDiv,Nat.reduceMod,Nat.reducePow,Nat.reduceLT,Nat.reduceLeDiff,Nat.reduceEqDiff,Int.reduceAdd,Int.reduceSub,Int.reduceNeg,Int.reduceMul,Int.reduceToNat,Int.reducePow,Int.reduceLE,Int.reduceLT,Int.reduceEq,Int.reduceNe,reduceIte,reduceCtorEq,ne_eq,not_true_eq_false,not_false_eq_true,imp_self,implies_true,bls,eq_self,hsl]
  refine V_loop (ι := Nat × St) (fun e => [(12, .val (.int .i64 (e.1 : Int))), (11, .val (.int .i64 (L.length : Int))), (10, y), (3, .val (.int .i64 (dps (L.take e.1) : Int)))]) (fun e => e.2)
    (fun e => Ext T2 e.2 ∧ e.1 ≤ L.length) (fun e => L.length - e.1) (0, T2) ⟨.refl, by simp⟩ rfl (by simp (disch:=first|assumption|omega|(simp only [lens];omega)) only [eqs,↓gvd_succ,↓gvd_zero,↓and_of,im_of,im_of trivial,vlt,hP,hst,initS,Nat.reduceBEq,Nat.reduceAdd,Nat.reduceMul,Nat.reduceSub,Nat.reduceDiv,Nat.reduceMod,Nat.reducePow,Nat.reduceLT,Nat.reduceLeDiff,Nat.reduceEqDiff,Int.reduceAdd,Int.reduceSub,Int.reduceNeg,Int.reduceMul,Int.reduceToNat,Int.reducePow,Int.reduceLE,Int.reduceLT,Int.reduceEq,Int.reduceNe,reduceIte,reduceCtorEq,ne_eq,not_true_eq_false,not_false_eq_true,imp_self,implies_true,bls,eq_self] <;> rfl) ?_
  rintro ⟨i, U⟩ ⟨hU, hi⟩
  dsimp only at hU hi ⊢
  have hXU : X.st1.length ≤ U.length := Nat.le_trans hX (Nat.le_trans e0.len (Nat.le_trans e2.len hU.len))
  simp (disch:=first|assumption|omega|(simp only [lens];omega)) only [eqs,↓gvd_succ,↓gvd_zero,↓and_of,im_of,im_of trivial,vlt,hP,hst,initS,Nat.reduceBEq,Nat.reduceAdd,Nat.reduceMul,Nat.reduceSub,Nat.reduceDiv,Nat.reduceMod,Nat.reducePow,Nat.reduceLT,Nat.reduceLeDiff,Nat.reduceEqDiff,Int.reduceAdd,Int.reduceSub,Int.reduceNeg,Int.reduceMul,Int.reduceToNat,Int.reducePow,Int.reduceLE,Int.reduceLT,Int.reduceEq,Int.reduceNe,reduceIte,reduceCtorEq,ne_eq,not_true_eq_false,not_false_eq_true,imp_self,implies_true,bls,eq_self]
  refine C_dec (fun h1 => ?_) (fun h1 => ?_)
  · obtain ⟨cs', c', e, hsl', hcl', hc', hc7', hca', he, hec, hb1, hb2⟩ := (hy.ext hU).at (i := i) (by omega)
    have t7' := List.take_of_length_le (Nat.le_of_eq hc7')
    have hes := szs_mem (List.mem_of_getElem? he)
    have hed := dps_mem (List.mem_of_getElem? he)
    have hm1 : min 7 (L.length * 7 - i * 7) = 7 := by omega
    simp (disch:=first|assumption|omega|(simp only [lens];omega)) only [eqs,↓gvd_succ,↓gvd_zero,↓and_of,im_of,im_of trivial,vlt,hP,hst,initS,Nat.reduceBEq,Nat.reduceAdd,Nat.reduceMul,Nat.reduceSub,Nat.reduceDiv,Nat.reduceMod,Nat.reducePow,Nat.reduceLT,Nat.reduceLeDiff,Nat.reduceEqDiff,Int.reduceAdd,Int.reduceSub,Int.reduceNeg,Int.reduceMul,Int.reduceToNat,Int.reducePow,Int.reduceLE,Int.reduceLT,Int.reduceEq,Int.reduceNe,reduceIte,reduceCtorEq,ne_eq,not_true_eq_false,not_false_eq_true,imp_self,implies_true,bls,eq_self,hsl',hcl',hc',hca',hc7',take7 hc7',hm1,t7',zD_drop,zD_len,List.append_nil,hXU,hb1,hb2]
    refine E_call (hP ▸ ih) ⟨_, e, rfl, ⟨c', rfl, hec.ext (.add _)⟩, by omega, fun V hV => ?_⟩
    rw [if_pos (by constructor <;> omega)]
    have eV : Ext T2 V := hU.trans ((Ext.add _).trans hV)
    have hmx : (if (dps (L.take i) : Int) < (e.dp : Int) then (e.dp : Int) else (dps (L.take i) : Int)) = (dps (L.take (i + 1)) : Int) := by
      rw [dps_take he]
      split <;> omega
    simp (disch:=first|assumption|omega|(simp only [lens];omega)) only [eqs,↓gvd_succ,↓gvd_zero,↓and_of,im_of,im_of trivial,vlt,hP,hst,initS,Nat.reduceBEq,Nat.reduceAdd,Nat.reduceMul,Nat.reduceSub,Nat.reduceDiv,Nat.reduceMod,Nat.reducePow,Nat.reduceLT,Nat.reduceLeDiff,Nat.reduceEqDiff,Int.reduceAdd,Int.reduceSub,Int.reduceNeg,Int.reduceMul,Int.reduceToNat,Int.reducePow,Int.reduceLE,Int.reduceLT,Int.reduceEq,Int.reduceNe,reduceIte,reduceCtorEq,ne_eq,not_true_eq_false,not_false_eq_true,imp_self,implies_true,bls,eq_self,gt_iff_lt,hmx]
    exact again (i + 1, V) ⟨eV, by dsimp only; omega⟩ (by dsimp only; omega) rfl (by dsimp only; simp (disch:=first|assumption|omega|(simp only [lens];omega)) only [eqs,↓gvd_succ,↓gvd_zero,↓and_of,im_of,im_of trivial,vlt,hP,hst,initS,Nat.reduceBEq,Nat.reduceAdd,Nat.reduceMul,Nat.reduceSub,Nat.reduceDiv,Nat.reduceMod,Nat.reducePow,Nat.reduceLT,Nat.reduceLeDiff,Nat.reduceEqDiff,Int.reduceAdd,Int.reduceSub,Int.reduceNeg,Int.reduceMul,Int.reduceToNat,Int.reducePow,Int.reduceLE,Int.reduceLT,Int.reduceEq,Int.reduceNe,reduceIte,reduceCtorEq,ne_eq,not_true_eq_false,not_false_eq_true,imp_self,implies_true,bls,eq_self] <;> rfl)
  · have : i = L.length := by omega
    subst this
    rw [List.take_length]
    have hwr : IntKind.i64.wrap ((dps L : Int) + 1) = ((1 + max (dps its) (dps tls) : Nat) : Int) := by rw [IntKind.wrap_i64]; omega
    simp (disch:=first|assumption|omega|(simp only [lens];omega)) only [eqs,↓gvd_succ,↓gvd_zero,↓and_of,im_of,im_of trivial,vlt,hP,hst,initS,Nat.reduceBEq,Nat.reduceAdd,Nat.reduceMul,Nat.reduceSub,Nat.reduceDiv,Nat.reduceMod,Nat.reducePow,Nat.reduceLT,Nat.reduceLeDiff,Nat.reduceEqDiff,Int.reduceAdd,Int.reduceSub,Int.reduceNeg,Int.reduceMul,Int.reduceToNat,Int.reducePow,Int.reduceLE,Int.reduceLT,Int.reduceEq,Int.reduceNe,reduceIte,reduceCtorEq,ne_eq,not_true_eq_false,not_false_eq_true,imp_self,implies_true,bls,eq_self,hwr]
    exact hK _ ((e0.trans e2).trans hU)

theorem New.set {st T T2 : St} {x : AV} {d : Dt} {i : Nat} {v : Option (List AV)} (h : New T T2 x d) (e : Ext st T) (h1 : st.length ≤ i) (h2 : i < T.length) : New st (T2.set i v) x d := by
  obtain ⟨y, rfl, h⟩ := h
  obtain ⟨z, rfl⟩ := e
  refine ⟨z.set (i - st.length) v ++ y, ?_, fun B hB => ?_⟩
  · rw [List.set_append_left _ _ h2, List.set_append_right _ _ h1, List.append_assoc]
  · rw [← List.append_assoc]
    exact h _ (by simp [hB])
def RNormT (xs : List AV) (st : St) (K : AV → St → Prop) : Prop := ∃ x d, xs = [x] ∧ DA st x d ∧ d.fit ∧ d.few ∧ ∀ x' T, New st T x' (nrm d) → K x' T
theorem s_NormD : PSpec Tryd.prog 64 RNormT := by
  refine fspec_of (fn := Tryd.f64) 1 [.cell 2 27] (by kernel_rfl) rfl rfl (by kernel_rfl) mixed (by rintro _ _ _ ⟨x, d, rfl, _⟩; rfl) ?_
  rintro X _ st K hP hst ⟨x, d, rfl, hx, hf, hw, hK⟩
  have hX : X.st1.length ≤ st.length + 1 := by rw [hst]; omega
  have hda := hx
  obtain ⟨c, rfl, hdc⟩ := hx
  have hca := hdc.all
  have hc7 := hdc.len
  have t7 := List.take_of_length_le (Nat.le_of_eq hc7)
  refine vc_V ?_
  simp (disch:=first|assumption|omega|(simp only [lens];omega)) only [eqs,↓gvd_succ,↓gvd_zero,↓and_of,im_of,im_of trivial,vlt,hP,hst,initS,Nat.reduceBEq,Nat.reduceAdd,Nat.reduceMul,Nat.reduceSub,Nat.reduceDiv,Nat.reduceMod,Nat.reducePow,Nat.reduceLT,Nat.reduceLeDiff,Nat.reduceEqDiff,Int.reduceAdd,Int.reduceSub,Int.reduceNeg,Int.reduceMul,Int.reduceToNat,Int.reducePow,Int.reduceLE,Int.reduceLT,Int.reduceEq,Int.reduceNe,reduceIte,reduceCtorEq,ne_eq,not_true_eq_false,not_false_eq_true,imp_self,implies_true,bls,eq_self,hca,hc7,t7,zD_map]
  refine E_call (hP ▸ s_few) ⟨_, d, rfl, hda.ext (.add _), fun T eT => ?_⟩
  have gT := (At.ext (c := c) At.mk0 eT).get
  have gT1 := At.ext At.mk1 eT
  have e0 : Ext st T := (Ext.add _).trans eT
  simp (disch:=first|assumption|omega|(simp only [lens];omega)) only [eqs,↓gvd_succ,↓gvd_zero,↓and_of,im_of,im_of trivial,vlt,hP,hst,initS,Nat.reduceBEq,Nat.reduceAdd,Nat.reduceMul,Nat.reduceSub,Nat.reduceDiv,Nat.reduceMod,Nat.reducePow,Nat.reduceLT,Nat.reduceLeDiff,Nat.reduceEqDiff,Int.reduceAdd,Int.reduceSub,Int.reduceNeg,Int.reduceMul,Int.reduceToNat,Int.reducePow,Int.reduceLE,Int.reduceLT,Int.reduceEq,Int.reduceNe,reduceIte,reduceCtorEq,ne_eq,not_true_eq_false,not_false_eq_true,imp_self,implies_true,bls,eq_self]
  refine C_dec (fun h => absurd hw h) (fun _ => ?_)
  simp (disch:=first|assumption|omega|(simp only [lens];omega)) only [eqs,↓gvd_succ,↓gvd_zero,↓and_of,im_of,im_of trivial,vlt,hP,hst,initS,Nat.reduceBEq,Nat.reduceAdd,Nat.reduceMul,Nat.reduceSub,Nat.reduceDiv,Nat.reduceMod,Nat.reducePow,Nat.reduceLT,Nat.reduceLeDiff,Nat.reduceEqDiff,Int.reduceAdd,Int.reduceSub,Int.reduceNeg,Int.reduceMul,Int.reduceToNat,Int.reducePow,Int.reduceLE,Int.reduceLT,Int.reduceEq,Int.reduceNe,reduceIte,reduceCtorEq,ne_eq,not_true_eq_false,not_false_eq_true,imp_self,implies_true,bls,eq_self,gT,hc7,t7]
  refine E_call (hP ▸ s_normD (d.sz + 1)) ⟨_, d, rfl, hda.ext e0, by omega, hw.1, hf, fun x' T2 hN => ?_⟩
  obtain ⟨c2, rfl, hdc2⟩ := hN.da
  have hc27 := hdc2.len
  have hc2a := hdc2.all
  have b7 := List.take_of_length_le (Nat.le_of_eq hc27)
  have b1 := (gT1.ext hN.ex).get
  have hl1 : st.length + 1 < T.length := gT1.lt
  have hl2 : st.length + 1 < T2.length := Nat.lt_of_lt_of_le hl1 hN.ex.len
  simp (disch:=first|assumption|omega|(simp only [lens];omega)) only [eqs,↓gvd_succ,↓gvd_zero,↓and_of,im_of,im_of trivial,vlt,hP,hst,initS,Nat.reduceBEq,Nat.reduceAdd,Nat.reduceMul,Nat.reduceSub,Nat.reduceDiv,Nat.reduceMod,Nat.reducePow,Nat.reduceLT,Nat.reduceLeDiff,Nat.reduceEqDiff,Int.reduceAdd,Int.reduceSub,Int.reduceNeg,Int.reduceMul,Int.reduceToNat,Int.reducePow,Int.reduceLE,Int.reduceLT,Int.reduceEq,Int.reduceNe,reduceIte,reduceCtorEq,ne_eq,not_true_eq_false,not_false_eq_true,imp_self,implies_true,bls,eq_self,b1,hc27,hc2a,hX,b7,take7 hc27,zD7,List.append_nil,List.getElem?_set_self,hl2]
  exact hK _ _ (hN.set e0 (by omega) hl1)
end Go.Proofs.Pv
