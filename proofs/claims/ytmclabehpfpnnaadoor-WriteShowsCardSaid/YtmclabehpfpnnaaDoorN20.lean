/- pavaneref04: digit, letter. -/
import Derived.Test.YtmclabehpfpnnaaDoorN17
import Derived.Lib.SlBytesConst
import Derived.Lib.SmallJoins
set_option linter.unusedSimpArgs false
set_option linter.unusedVariables false
namespace Go.Proofs.Pv
open Go Go.RowKit Go.Proofs
set_option maxRecDepth 100000

theorem s_qdigit : PSpec Tryd.prog 38 RDig := by
  refine fspec_of (fn := Tryd.f38) 1 [.tmp 2] (by kernel_rfl) rfl rfl (by kernel_rfl) mixed (by rintro _ _ _ ⟨c, rfl, _⟩; rfl) ?_
  rintro X _ st K hP hst ⟨c, rfl, hK⟩
  unfold digB at hK
  refine vc_V ?_
  simp (disch:=first|assumption|omega|(simp only [lens];omega)) only [eqs,↓gvd_succ,↓gvd_zero,↓and_of,im_of,im_of trivial,vlt,hP,hst,initS,Nat.reduceBEq,Nat.reduceAdd,Nat.reduceMul,Nat.reduceSub,Nat.reduceDiv,Nat.reduceMod,Nat.reducePow,Nat.reduceLT,Nat.reduceLeDiff,Nat.reduceEqDiff,Int.reduceAdd,Int.reduceSub,Int.reduceNeg,Int.reduceMul,Int.reduceToNat,Int.reducePow,Int.reduceLE,Int.reduceLT,Int.reduceEq,Int.reduceNe,reduceIte,reduceCtorEq,ne_eq,not_true_eq_false,not_false_eq_true,imp_self,implies_true,bls,eq_self]
  refine G_dec (fun h => ?_) (fun h => ?_)
  · rw [decide_eq_true (by omega : 48 ≤ c), Bool.true_and] at hK
    simp (disch:=first|assumption|omega|(simp only [lens];omega)) only [eqs,↓gvd_succ,↓gvd_zero,↓and_of,im_of,im_of trivial,vlt,hP,hst,initS,Nat.reduceBEq,Nat.reduceAdd,Nat.reduceMul,Nat.reduceSub,Nat.reduceDiv,Nat.reduceMod,Nat.reducePow,Nat.reduceLT,Nat.reduceLeDiff,Nat.reduceEqDiff,Int.reduceAdd,Int.reduceSub,Int.reduceNeg,Int.reduceMul,Int.reduceToNat,Int.reducePow,Int.reduceLE,Int.reduceLT,Int.reduceEq,Int.reduceNe,reduceIte,reduceCtorEq,ne_eq,not_true_eq_false,not_false_eq_true,imp_self,implies_true,bls,eq_self,h]
    have e : decide ((c : Int) ≤ 57) = decide (c ≤ 57) := decide_eq_decide.2 (by omega)
    rw [e]
    exact hK
  · rw [decide_eq_false (by omega : ¬48 ≤ c), Bool.false_and] at hK
    simp (disch:=first|assumption|omega|(simp only [lens];omega)) only [eqs,↓gvd_succ,↓gvd_zero,↓and_of,im_of,im_of trivial,vlt,hP,hst,initS,Nat.reduceBEq,Nat.reduceAdd,Nat.reduceMul,Nat.reduceSub,Nat.reduceDiv,Nat.reduceMod,Nat.reducePow,Nat.reduceLT,Nat.reduceLeDiff,Nat.reduceEqDiff,Int.reduceAdd,Int.reduceSub,Int.reduceNeg,Int.reduceMul,Int.reduceToNat,Int.reducePow,Int.reduceLE,Int.reduceLT,Int.reduceEq,Int.reduceNe,reduceIte,reduceCtorEq,ne_eq,not_true_eq_false,not_false_eq_true,imp_self,implies_true,bls,eq_self,h]
    exact hK
theorem n_qdigit (c : Nat) (w : World) : Calls Tryd.prog 38 #[.int .u8 (c : Int)] w fun e w' => e = .returned (.bool (digB c)) ∧ w = w' := by
  go_enter Tryd.func38, Tryd.ntmps38
  by_cases h1 : (48 : Int) ≤ (c : Int)
  · go_wp2
    go_ret
    have e : decide ((c : Int) ≤ 57) = digB c := by unfold digB; rw [decide_eq_true (by omega : 48 ≤ c), Bool.true_and]; exact decide_eq_decide.2 (by omega)
    rw [e]
    exact ⟨rfl, rfl⟩
  · go_wp2
    go_ret
    have e : digB c = false := by unfold digB; rw [decide_eq_false (by omega : ¬48 ≤ c), Bool.false_and]
    rw [e]
    exact ⟨rfl, rfl⟩
def letB (c : Nat) : Bool := (decide (97 ≤ c) && decide (c ≤ 122)) || (decide (65 ≤ c) && decide (c ≤ 90)) || digB c || decide (c ∈ signsW)
theorem letB_part : ∀ c : Fin 256, letB c.val = partB c.val := by decide +kernel
theorem sg_cell (i : Nat) (h : i < 18) : ∃ x, signsW[i]? = some x ∧ (#[Value.int .u8 33, .int .u8 36, .int .u8 37, .int .u8 38, .int .u8 42, .int .u8 47, .int .u8 58, .int .u8 60, .int .u8 61, .int .u8 62, .int .u8 63, .int .u8 94, .int .u8 95, .int .u8 126, .int .u8 43, .int .u8 45, .int .u8 46, .int .u8 64] : Array Value)[i]? = some (.int .u8 (x : Int)) := by
  have : ∀ i : Fin 18, ∃ x, signsW[i.val]? = some x ∧ (#[Value.int .u8 33, .int .u8 36, .int .u8 37, .int .u8 38, .int .u8 42, .int .u8 47, .int .u8 58, .int .u8 60, .int .u8 61, .int .u8 62, .int .u8 63, .int .u8 94, .int .u8 95, .int .u8 126, .int .u8 43, .int .u8 45, .int .u8 46, .int .u8 64] : Array Value)[i.val]? = some (.int .u8 (x : Int)) := by
    intro i
    have hl : i.val < signsW.length := i.2
    refine ⟨signsW[i.val], List.getElem?_eq_getElem hl, ?_⟩
    have e : (#[Value.int .u8 33, .int .u8 36, .int .u8 37, .int .u8 38, .int .u8 42, .int .u8 47, .int .u8 58, .int .u8 60, .int .u8 61, .int .u8 62, .int .u8 63, .int .u8 94, .int .u8 95, .int .u8 126, .int .u8 43, .int .u8 45, .int .u8 46, .int .u8 64] : Array Value) = (signsW.map fun (n : Nat) => Value.int .u8 (n : Int)).toArray := rfl
    rw [e, List.getElem?_toArray, List.getElem?_map, List.getElem?_eq_getElem hl]
    rfl
  exact this ⟨i, h⟩
set_option maxHeartbeats 2000000 in
theorem n_letter (c : Nat) (hc : c < 256) (w : World) : Calls Tryd.prog 39 #[.int .u8 (c : Int)] w fun e w' => e = .returned (.bool (letB c)) ∧ Below w.heap.size w w' := by
  have kc := fun (w : World) (C : Array Value) (n c : Nat) => Lib.run_convert_bytes_const (P := Tryd.prog) w 65 5 C n c Tryd.underlying65 Tryd.underlying5
  by_cases h1 : (97 : Int) ≤ (c : Int)
  · by_cases h2 : (c : Int) ≤ 122
    · go_enter Tryd.func39, Tryd.ntmps39
      go_wp2
      go_ret
      have e : letB c = true := by unfold letB; rw [decide_eq_true (by omega : 97 ≤ c), decide_eq_true (by omega : c ≤ 122)]; rfl
      rw [e]
      exact ⟨rfl, Below.refl _ _⟩
    · have h3 : (65 : Int) ≤ (c : Int) := by omega
      have h4 : ¬(c : Int) ≤ 90 := by omega
      have e : letB c = decide (c ∈ signsW) := by unfold letB digB; rw [decide_eq_false (by omega : ¬c ≤ 122), decide_eq_false (by omega : ¬c ≤ 90), decide_eq_false (by omega : ¬c ≤ 57)]; simp
      have hd : digB c = false := by unfold digB; rw [decide_eq_false (by omega : ¬c ≤ 57), Bool.and_false]
      rw [e]
      go_enter Tryd.func39, Tryd.ntmps39
      go_wp2_with (go_at_call 38; refine (n_qdigit c _).mono ?_; rintro _ _ ⟨rfl, rfl⟩)
      generalize hW1 : w.alloc (.cells #[Value.int .u8 33, .int .u8 36, .int .u8 37, .int .u8 38, .int .u8 42, .int .u8 47, .int .u8 58, .int .u8 60, .int .u8 61, .int .u8 62, .int .u8 63, .int .u8 94, .int .u8 95, .int .u8 126, .int .u8 43, .int .u8 45, .int .u8 46, .int .u8 64] 5 (18, 19)) = W1
      have hcells : ∀ i, i < 18 → ∃ x : Nat, signsW[i]? = some x ∧ W1.cell? ⟨w.heap.size, i, none⟩ = some (.int .u8 (x : Int)) := fun i hi => by
        obtain ⟨x, hx1, hx2⟩ := sg_cell i hi
        exact ⟨x, hx1, by rw [← hW1, World.cell?_alloc_mark]; exact hx2⟩
      have hbel : Below w.heap.size w W1 := by rw [← hW1]; exact (Below.refl _ _).alloc (Nat.le_refl _) _
      clear hW1
      go_loopw [26] (fun i wr => ∃ k : Nat, k ≤ 18 ∧ i = .int .i64 k ∧ (∀ (j x : Nat), j < k → signsW[j]? = some x → x ≠ c) ∧ wr = W1)
        (fun i _ => 18 - (intOf i).toNat)
      case atStart => exact ⟨0, Nat.zero_le _, rfl, by simp, rfl⟩
      case round =>
        obtain ⟨k, hk, rfl, hj, rfl⟩ := hrel
        by_cases hlt : k < 18
        · obtain ⟨x, hx1, hcell⟩ := hcells k hlt
          by_cases hxc : (x : Int) = (c : Int)
          · have hm : c ∈ signsW := by
              have : x = c := by omega
              exact this ▸ List.mem_of_getElem? hx1
            go_wp2
            go_ret
            exact ⟨by rw [decide_eq_true hm]; rfl, hbel⟩
          · go_wp2
            go_roundw
            case rel => exact ⟨k + 1, by omega, by simp, fun j y hj2 hy => by
              by_cases hji : j = k
              · subst hji; rw [hx1] at hy; cases hy; omega
              · exact hj j y (by omega) hy, trivial⟩
            case measure => simp [intOf]; omega
        · have hm : ¬c ∈ signsW := fun hm => by
            obtain ⟨j, hjl, hje⟩ := List.getElem_of_mem hm
            exact hj j c (by have : signsW.length = 18 := rfl; omega) (by rw [List.getElem?_eq_getElem hjl, hje]) rfl
          go_wp2
          go_ret
          exact ⟨by rw [decide_eq_false hm]; rfl, hbel⟩
  · by_cases h3 : (65 : Int) ≤ (c : Int)
    · by_cases h4 : (c : Int) ≤ 90
      · go_enter Tryd.func39, Tryd.ntmps39
        go_wp2
        go_ret
        have e : letB c = true := by unfold letB; rw [decide_eq_true (by omega : 65 ≤ c), decide_eq_true (by omega : c ≤ 90)]; simp
        rw [e]
        exact ⟨rfl, Below.refl _ _⟩
      · have e : letB c = decide (c ∈ signsW) := by unfold letB digB; rw [decide_eq_false (by omega : ¬97 ≤ c), decide_eq_false (by omega : ¬c ≤ 90), decide_eq_false (by omega : ¬c ≤ 57)]; simp
        have hd : digB c = false := by unfold digB; rw [decide_eq_false (by omega : ¬c ≤ 57), Bool.and_false]
        rw [e]
        go_enter Tryd.func39, Tryd.ntmps39
        go_wp2_with (go_at_call 38; refine (n_qdigit c _).mono ?_; rintro _ _ ⟨rfl, rfl⟩)
        generalize hW1 : w.alloc (.cells #[Value.int .u8 33, .int .u8 36, .int .u8 37, .int .u8 38, .int .u8 42, .int .u8 47, .int .u8 58, .int .u8 60, .int .u8 61, .int .u8 62, .int .u8 63, .int .u8 94, .int .u8 95, .int .u8 126, .int .u8 43, .int .u8 45, .int .u8 46, .int .u8 64] 5 (18, 19)) = W1
        have hcells : ∀ i, i < 18 → ∃ x : Nat, signsW[i]? = some x ∧ W1.cell? ⟨w.heap.size, i, none⟩ = some (.int .u8 (x : Int)) := fun i hi => by
          obtain ⟨x, hx1, hx2⟩ := sg_cell i hi
          exact ⟨x, hx1, by rw [← hW1, World.cell?_alloc_mark]; exact hx2⟩
        have hbel : Below w.heap.size w W1 := by rw [← hW1]; exact (Below.refl _ _).alloc (Nat.le_refl _) _
        clear hW1
        go_loopw [26] (fun i wr => ∃ k : Nat, k ≤ 18 ∧ i = .int .i64 k ∧ (∀ (j x : Nat), j < k → signsW[j]? = some x → x ≠ c) ∧ wr = W1)
          (fun i _ => 18 - (intOf i).toNat)
        case atStart => exact ⟨0, Nat.zero_le _, rfl, by simp, rfl⟩
        case round =>
          obtain ⟨k, hk, rfl, hj, rfl⟩ := hrel
          by_cases hlt : k < 18
          · obtain ⟨x, hx1, hcell⟩ := hcells k hlt
            by_cases hxc : (x : Int) = (c : Int)
            · have hm : c ∈ signsW := by
                have : x = c := by omega
                exact this ▸ List.mem_of_getElem? hx1
              go_wp2
              go_ret
              exact ⟨by rw [decide_eq_true hm]; rfl, hbel⟩
            · go_wp2
              go_roundw
              case rel => exact ⟨k + 1, by omega, by simp, fun j y hj2 hy => by
                by_cases hji : j = k
                · subst hji; rw [hx1] at hy; cases hy; omega
                · exact hj j y (by omega) hy, trivial⟩
              case measure => simp [intOf]; omega
          · have hm : ¬c ∈ signsW := fun hm => by
              obtain ⟨j, hjl, hje⟩ := List.getElem_of_mem hm
              exact hj j c (by have : signsW.length = 18 := rfl; omega) (by rw [List.getElem?_eq_getElem hjl, hje]) rfl
            go_wp2
            go_ret
            exact ⟨by rw [decide_eq_false hm]; rfl, hbel⟩
    · have e : letB c = (digB c || decide (c ∈ signsW)) := by unfold letB; rw [decide_eq_false (by omega : ¬97 ≤ c), decide_eq_false (by omega : ¬65 ≤ c)]; simp
      rw [e]
      cases hd : digB c
      · rw [Bool.false_or]
        go_enter Tryd.func39, Tryd.ntmps39
        go_wp2_with (go_at_call 38; refine (n_qdigit c _).mono ?_; rintro _ _ ⟨rfl, rfl⟩)
        generalize hW1 : w.alloc (.cells #[Value.int .u8 33, .int .u8 36, .int .u8 37, .int .u8 38, .int .u8 42, .int .u8 47, .int .u8 58, .int .u8 60, .int .u8 61, .int .u8 62, .int .u8 63, .int .u8 94, .int .u8 95, .int .u8 126, .int .u8 43, .int .u8 45, .int .u8 46, .int .u8 64] 5 (18, 19)) = W1
        have hcells : ∀ i, i < 18 → ∃ x : Nat, signsW[i]? = some x ∧ W1.cell? ⟨w.heap.size, i, none⟩ = some (.int .u8 (x : Int)) := fun i hi => by
          obtain ⟨x, hx1, hx2⟩ := sg_cell i hi
          exact ⟨x, hx1, by rw [← hW1, World.cell?_alloc_mark]; exact hx2⟩
        have hbel : Below w.heap.size w W1 := by rw [← hW1]; exact (Below.refl _ _).alloc (Nat.le_refl _) _
        clear hW1
        go_loopw [26] (fun i wr => ∃ k : Nat, k ≤ 18 ∧ i = .int .i64 k ∧ (∀ (j x : Nat), j < k → signsW[j]? = some x → x ≠ c) ∧ wr = W1)
          (fun i _ => 18 - (intOf i).toNat)
        case atStart => exact ⟨0, Nat.zero_le _, rfl, by simp, rfl⟩
        case round =>
          obtain ⟨k, hk, rfl, hj, rfl⟩ := hrel
          by_cases hlt : k < 18
          · obtain ⟨x, hx1, hcell⟩ := hcells k hlt
            by_cases hxc : (x : Int) = (c : Int)
            · have hm : c ∈ signsW := by
                have : x = c := by omega
                exact this ▸ List.mem_of_getElem? hx1
              go_wp2
              go_ret
              exact ⟨by rw [decide_eq_true hm]; rfl, hbel⟩
            · go_wp2
              go_roundw
              case rel => exact ⟨k + 1, by omega, by simp, fun j y hj2 hy => by
                by_cases hji : j = k
                · subst hji; rw [hx1] at hy; cases hy; omega
                · exact hj j y (by omega) hy, trivial⟩
              case measure => simp [intOf]; omega
          · have hm : ¬c ∈ signsW := fun hm => by
              obtain ⟨j, hjl, hje⟩ := List.getElem_of_mem hm
              exact hj j c (by have : signsW.length = 18 := rfl; omega) (by rw [List.getElem?_eq_getElem hjl, hje]) rfl
            go_wp2
            go_ret
            exact ⟨by rw [decide_eq_false hm]; rfl, hbel⟩
      · rw [Bool.true_or]
        go_enter Tryd.func39, Tryd.ntmps39
        go_wp2_with (go_at_call 38; refine (n_qdigit c _).mono ?_; rintro _ _ ⟨rfl, rfl⟩)
        go_ret
        exact ⟨rfl, Below.refl _ _⟩
theorem s_letter : PSpec Tryd.prog 39 RPartB := by
  refine ⟨by kernel_rfl, fun w0 β st w vs xs K hI hv hR => ?_⟩
  obtain ⟨c, rfl, hc, hK⟩ := hR
  obtain rfl := vrels_vals (us := [.int .u8 (c : Int)]) hv
  refine (n_letter c hc w).mono ?_
  rintro e w' ⟨rfl, hb⟩
  rw [letB_part ⟨c, hc⟩]
  exact ⟨_, _, [], _, rfl, by rw [List.append_nil]; exact hI.grow_below hb, .val _, hK⟩
end Go.Proofs.Pv
