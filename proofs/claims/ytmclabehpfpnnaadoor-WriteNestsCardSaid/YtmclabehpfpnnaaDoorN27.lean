/- pavanelaw04: WriteNests. -/
import Derived.Test.YtmclabehpfpnnaaDoorN26
set_option linter.unusedSimpArgs false
set_option linter.unusedVariables false
namespace Go.Proofs.Pv
open Go Go.RowKit Go.Proofs
set_option maxRecDepth 20000

theorem its_n (raw : Bool) {ds : List Dt} {i : Nat} {d : Dt} (h : ds[i]? = some d) : itsL raw ((ds.take (i + 1)).map nrm) = itsL raw ((ds.take i).map nrm) ++ ((if i = 0 then [] else [32]) ++ textL raw (nrm d)) := by
  have hi := (List.getElem?_eq_some_iff.1 h).1
  have hl : ((ds.take i).map nrm).length = i := by rw [List.length_map, List.length_take]; omega
  rw [take_succ' h, List.map_append, List.map_cons, List.map_nil, its_snoc, hl]
theorem szs_le {n : Nat} {ds : List Dt} (h : ∀ d ∈ ds, d.sz ≤ n) : szs ds ≤ n * ds.length := by
  induction ds with
  | nil => simp [szs]
  | cons d ds ih =>
    have h1 := h d (by simp)
    have h2 := ih fun e he => h e (by simp [he])
    simp only [szs, List.length_cons, Nat.mul_add]
    omega
theorem dps_le {n : Nat} {ds : List Dt} (h : ∀ d ∈ ds, d.dp ≤ n) : dps ds ≤ n := by
  induction ds with
  | nil => simp [dps]
  | cons d ds ih =>
    have h1 := h d (by simp)
    have h2 := ih fun e he => h e (by simp [he])
    simp only [dps]
    omega
theorem wOks_all {ds : List Dt} (h : ∀ d ∈ ds, wOk d) : wOks ds := by
  induction ds with
  | nil => rw [wOks]; trivial
  | cons d ds ih => rw [wOks]; exact ⟨h d (by simp), ih fun e he => h e (by simp [he])⟩
theorem light_few4 {d : Dt} (h : light4 d) : d.sz ≤ 100000 ∧ d.dp ≤ 10000 := ⟨Nat.le_trans h.1.1 (by omega), Nat.le_trans h.1.2 (by omega)⟩
theorem light_wrt {d : Dt} (h : light4 d) (raw : Bool) : wrtL raw d = textL raw (nrm d) := if_pos (light_few4 h)
/-- Items between brackets. -/
abbrev lD (ds tl : List Dt) : Dt := .mk 5 false [] false ⟨#[]⟩ ds tl
theorem wrt_l {ds : List Dt} (h1 : szs ds ≤ 500) (h2 : dps ds ≤ 20) (raw : Bool) : wrtL raw (lD ds []) = 40 :: itsL raw (ds.map nrm) ++ [41] := by
  unfold wrtL
  rw [if_pos ⟨by rw [sz_mk]; simp [szs]; omega, by rw [dp_mk]; simp [dps]; omega⟩, nrm_mk]
  simp [text_mk, tlsL]
theorem wrt_t {ds : List Dt} {t : Dt} (h1 : szs ds ≤ 500) (h2 : dps ds ≤ 20) (ht : light4 t) (h0 : ds.length ≠ 0) (hk : (nrm t).kd ≠ 5) (raw : Bool) : wrtL raw (lD ds [t]) = 40 :: itsL raw (ds.map nrm) ++ [32, 46, 32] ++ textL raw (nrm t) ++ [41] := by
  have h3 := ht.1
  unfold wrtL
  rw [if_pos ⟨by rw [sz_mk]; simp [szs]; omega, by rw [dp_mk]; simp [dps]; omega⟩, nrm_mk]
  have e : jn (ds.map nrm) (nrm t) = lD (ds.map nrm) [nrm t] := by
    unfold jn
    rw [if_neg (by simpa using h0), if_neg hk]
  simp [e, text_mk, tlsL]
theorem ltss_app {l m : List Dt} : ltss (l ++ m) ↔ ltss l ∧ ltss m := by
  induction l with
  | nil => simp [ltss]
  | cons d l ih => simp only [List.cons_append, ltss, ih, and_assoc]
theorem lts0 {k : Int} {g : Bool} {l : List Nat} {b : Bool} {s : ByteArray} (h : ∀ n ∈ l, n < 4294967296) : lts (.mk k g l b s [] []) := by
  rw [lts]; exact ⟨h, by rw [ltss]; trivial, by rw [ltss]; trivial⟩
mutual
theorem nrm_lts : ∀ d : Dt, lts d → lts (nrm d)
  | .mk k g l b s its tls, h => by
    rw [lts] at h
    have h1 := nrms_lts its h.2.1
    have h2 := nrms_lts tls h.2.2
    rw [nrm]
    split
    · exact lts0 (limbs_lt _)
    split
    · exact lts0 (by simp)
    split
    · exact lts0 (by simp)
    split
    · split
      · rw [lts]; exact ⟨by simp, h1, by rw [ltss]; trivial⟩
      · rename_i t ts hts
        rw [hts, ltss] at h2
        unfold jn
        split
        · exact h2.1
        split
        · obtain ⟨k', g', l', b', s', its', tls'⟩ := t
          have h3 := h2.1
          rw [lts] at h3 ⊢
          exact ⟨by simp, ltss_app.2 ⟨h1, h3.2.1⟩, h3.2.2⟩
        · rw [lts]
          exact ⟨by simp, h1, by rw [ltss]; exact ⟨h2.1, by rw [ltss]; trivial⟩⟩
    · exact lts0 (by simp)
theorem nrms_lts : ∀ ds : List Dt, ltss ds → ltss (nrms ds)
  | [], _ => by rw [nrms, ltss]; trivial
  | d :: ds, h => by
    rw [ltss] at h
    rw [nrms, ltss]
    exact ⟨nrm_lts d h.1, nrms_lts ds h.2⟩
end
def RNests (xs : List AV) (st : St) (K : AV → St → Prop) : Prop := ∃ y ds x t, xs = [y, x] ∧ DS st y ds ∧ DA st x t ∧ anyw st (.bool true) K
set_option maxHeartbeats 4000000 in
theorem s_WriteNests : ∀ w0, GW w0 → PSpecAt Tryd.prog w0 7 RNests := by
  refine gspec_of (fn := Tryd.f7) 2 [.tmp 4] (by kernel_rfl) rfl rfl (by kernel_rfl) mixed (by rintro _ _ _ ⟨_, _, _, _, rfl, _⟩; rfl) ?_
  rintro X _ st K hP hst hG ⟨y, ds, x, t, rfl, hy, hx, hK⟩
  have hX : X.st1.length ≤ st.length := by rw [hst]; omega
  have hda := hx
  obtain ⟨c, rfl, hdc⟩ := hx
  have hca := hdc.all
  have hc7 := hdc.len
  have t7 := List.take_of_length_le (Nat.le_of_eq hc7)
  have ly := hy.leaf
  obtain ⟨cs, hsl, hdl, hcl⟩ := hy.inv
  have hslg := fun z => sl_grow hsl z
  refine vc_V ?_
  simp (disch:=first|assumption|omega|(simp only [lens];omega)) only [eqs,↓gvd_succ,↓gvd_zero,↓and_of,im_of,im_of trivial,vlt,hP,hst,initS,Nat.reduceBEq,Nat.reduceAdd,Nat.reduceMul,Nat.reduceSub,Nat.reduceDiv,Nat.reduceMod,Nat.reducePow,Nat.reduceLT,Nat.reduceLeDiff,Nat.reduceEqDiff,Int.reduceAdd,Int.reduceSub,Int.reduceNeg,Int.reduceMul,Int.reduceToNat,Int.reducePow,Int.reduceLE,Int.reduceLT,Int.reduceEq,Int.reduceNe,reduceIte,reduceCtorEq,ne_eq,not_true_eq_false,not_false_eq_true,imp_self,implies_true,bls,eq_self,hca,hc7,t7,hslg]
  refine fun hlen => ?_
  refine G_ndec (fun h1 => ?_) (fun h1 => ?_)
  rotate_left
  · simp (disch:=first|assumption|omega|(simp only [lens];omega)) only [eqs,↓gvd_succ,↓gvd_zero,↓and_of,im_of,im_of trivial,vlt,hP,hst,initS,Nat.reduceBEq,Nat.reduceAdd,Nat.reduceMul,Nat.reduceSub,Nat.reduceDiv,Nat.reduceMod,Nat.reducePow,Nat.reduceLT,Nat.reduceLeDiff,Nat.reduceEqDiff,Int.reduceAdd,Int.reduceSub,Int.reduceNeg,Int.reduceMul,Int.reduceToNat,Int.reducePow,Int.reduceLE,Int.reduceLT,Int.reduceEq,Int.reduceNe,reduceIte,reduceCtorEq,ne_eq,not_true_eq_false,not_false_eq_true,imp_self,implies_true,bls,eq_self,h1]
    refine E_callA (hP ▸ s_livesW _ hG) ⟨rfl, fun T eT => ?_⟩
    simp (disch:=first|assumption|omega|(simp only [lens];omega)) only [eqs,↓gvd_succ,↓gvd_zero,↓and_of,im_of,im_of trivial,vlt,hP,hst,initS,Nat.reduceBEq,Nat.reduceAdd,Nat.reduceMul,Nat.reduceSub,Nat.reduceDiv,Nat.reduceMod,Nat.reducePow,Nat.reduceLT,Nat.reduceLeDiff,Nat.reduceEqDiff,Int.reduceAdd,Int.reduceSub,Int.reduceNeg,Int.reduceMul,Int.reduceToNat,Int.reducePow,Int.reduceLE,Int.reduceLT,Int.reduceEq,Int.reduceNe,reduceIte,reduceCtorEq,ne_eq,not_true_eq_false,not_false_eq_true,imp_self,implies_true,bls,eq_self]
    exact hK _ ((Ext.add _).trans eT)
  simp (disch:=first|assumption|omega|(simp only [lens];omega)) only [eqs,↓gvd_succ,↓gvd_zero,↓and_of,im_of,im_of trivial,vlt,hP,hst,initS,Nat.reduceBEq,Nat.reduceAdd,Nat.reduceMul,Nat.reduceSub,Nat.reduceDiv,Nat.reduceMod,Nat.reducePow,Nat.reduceLT,Nat.reduceLeDiff,Nat.reduceEqDiff,Int.reduceAdd,Int.reduceSub,Int.reduceNeg,Int.reduceMul,Int.reduceToNat,Int.reducePow,Int.reduceLE,Int.reduceLT,Int.reduceEq,Int.reduceNe,reduceIte,reduceCtorEq,ne_eq,not_true_eq_false,not_false_eq_true,imp_self,implies_true,bls,eq_self,h1,hc7,t7]
  refine E_call (hP ▸ s_light4) ⟨_, t, rfl, hda.ext (.add _), fun hl T1 e1 => ?_, fun hl T1 e1 => ?_⟩
  rotate_left
  · simp (disch:=first|assumption|omega|(simp only [lens];omega)) only [eqs,↓gvd_succ,↓gvd_zero,↓and_of,im_of,im_of trivial,vlt,hP,hst,initS,Nat.reduceBEq,Nat.reduceAdd,Nat.reduceMul,Nat.reduceSub,Nat.reduceDiv,Nat.reduceMod,Nat.reducePow,Nat.reduceLT,Nat.reduceLeDiff,Nat.reduceEqDiff,Int.reduceAdd,Int.reduceSub,Int.reduceNeg,Int.reduceMul,Int.reduceToNat,Int.reducePow,Int.reduceLE,Int.reduceLT,Int.reduceEq,Int.reduceNe,reduceIte,reduceCtorEq,ne_eq,not_true_eq_false,not_false_eq_true,imp_self,implies_true,bls,eq_self]
    refine E_callA (hP ▸ s_livesW _ hG) ⟨rfl, fun T eT => ?_⟩
    simp (disch:=first|assumption|omega|(simp only [lens];omega)) only [eqs,↓gvd_succ,↓gvd_zero,↓and_of,im_of,im_of trivial,vlt,hP,hst,initS,Nat.reduceBEq,Nat.reduceAdd,Nat.reduceMul,Nat.reduceSub,Nat.reduceDiv,Nat.reduceMod,Nat.reducePow,Nat.reduceLT,Nat.reduceLeDiff,Nat.reduceEqDiff,Int.reduceAdd,Int.reduceSub,Int.reduceNeg,Int.reduceMul,Int.reduceToNat,Int.reducePow,Int.reduceLE,Int.reduceLT,Int.reduceEq,Int.reduceNe,reduceIte,reduceCtorEq,ne_eq,not_true_eq_false,not_false_eq_true,imp_self,implies_true,bls,eq_self]
    exact hK _ ((Ext.add _).trans (e1.trans eT))
  have hok := light_wOk t hl.2
  have hfit := light_fit t hl.2
  have g1 := (At.ext (c := c) At.mk0 e1).get
  have z1 := (Ext.add [some c]).trans e1
  have hsl1 := sl_le hsl z1.le
  simp (disch:=first|assumption|omega|(simp only [lens];omega)) only [eqs,↓gvd_succ,↓gvd_zero,↓and_of,im_of,im_of trivial,vlt,hP,hst,initS,Nat.reduceBEq,Nat.reduceAdd,Nat.reduceMul,Nat.reduceSub,Nat.reduceDiv,Nat.reduceMod,Nat.reducePow,Nat.reduceLT,Nat.reduceLeDiff,Nat.reduceEqDiff,Int.reduceAdd,Int.reduceSub,Int.reduceNeg,Int.reduceMul,Int.reduceToNat,Int.reducePow,Int.reduceLE,Int.reduceLT,Int.reduceEq,Int.reduceNe,reduceIte,reduceCtorEq,ne_eq,not_true_eq_false,not_false_eq_true,imp_self,implies_true,bls,eq_self,hsl1]
  refine V_loop (ι := Nat × St) (fun e => [(21, .val (.int .i64 (e.1 : Int))), (20, .val (.int .i64 (ds.length : Int))), (19, y), (5, .val (.string (bstr (40 :: itsL false ((ds.take e.1).map nrm))))), (6, .val (.string (bstr (40 :: itsL true ((ds.take e.1).map nrm))))), (0, y), (3, .ptr st.length 0)]) (fun e => e.2)
    (fun e => Ext T1 e.2 ∧ e.1 ≤ ds.length ∧ (∀ raw, (itsL raw ((ds.take e.1).map nrm)).length ≤ e.1 * 600000000) ∧ ∀ (j : Nat) e', j < e.1 → ds[j]? = some e' → light4 e' ∧ e'.sz ≤ 50 ∧ e'.dp ≤ 20) (fun e => ds.length - e.1) (0, T1) ⟨.refl, by simp, by simp [itsL], by simp⟩ rfl (by simp (disch:=first|assumption|omega|(simp only [lens];omega)) only [eqs,↓gvd_succ,↓gvd_zero,↓and_of,im_of,im_of trivial,vlt,hP,hst,initS,Nat.reduceBEq,Nat.reduceAdd,Nat.reduceMul,Nat.reduceSub,Nat.reduceDiv,Nat.reduceMod,Nat.reducePow,Nat.reduceLT,Nat.reduceLeDiff,Nat.reduceEqDiff,Int.reduceAdd,Int.reduceSub,Int.reduceNeg,Int.reduceMul,Int.reduceToNat,Int.reducePow,Int.reduceLE,Int.reduceLT,Int.reduceEq,Int.reduceNe,reduceIte,reduceCtorEq,ne_eq,not_true_eq_false,not_false_eq_true,imp_self,implies_true,bls,eq_self,List.take_zero,List.map_nil,itsL] <;> rfl) ?_
  rintro ⟨i, U⟩ ⟨hU, hi, hsz, hj⟩
  dsimp only at hU hi hsz hj ⊢
  have eU : Ext st U := z1.trans hU
  have hXl := Nat.le_trans hX eU.len
  have hs0 := hsz false
  have hs1 := hsz true
  simp (disch:=first|assumption|omega|(simp only [lens];omega)) only [eqs,↓gvd_succ,↓gvd_zero,↓and_of,im_of,im_of trivial,vlt,hP,hst,initS,Nat.reduceBEq,Nat.reduceAdd,Nat.reduceMul,Nat.reduceSub,Nat.reduceDiv,Nat.reduceMod,Nat.reducePow,Nat.reduceLT,Nat.reduceLeDiff,Nat.reduceEqDiff,Int.reduceAdd,Int.reduceSub,Int.reduceNeg,Int.reduceMul,Int.reduceToNat,Int.reducePow,Int.reduceLE,Int.reduceLT,Int.reduceEq,Int.reduceNe,reduceIte,reduceCtorEq,ne_eq,not_true_eq_false,not_false_eq_true,imp_self,implies_true,bls,eq_self]
  refine C_dec (fun h2 => ?_) (fun h2 => ?_)
  · obtain ⟨cs, c, d, hsl, hcl, hc, hc7, hca, he, hec, hb1, hb2⟩ := (hy.ext eU).at (i := i) (by omega)
    have hdm := List.mem_of_getElem? he
    have t7 := List.take_of_length_le (Nat.le_of_eq hc7)
    simp (disch:=first|assumption|omega|(simp only [lens];omega)) only [eqs,↓gvd_succ,↓gvd_zero,↓and_of,im_of,im_of trivial,vlt,hP,hst,initS,Nat.reduceBEq,Nat.reduceAdd,Nat.reduceMul,Nat.reduceSub,Nat.reduceDiv,Nat.reduceMod,Nat.reducePow,Nat.reduceLT,Nat.reduceLeDiff,Nat.reduceEqDiff,Int.reduceAdd,Int.reduceSub,Int.reduceNeg,Int.reduceMul,Int.reduceToNat,Int.reducePow,Int.reduceLE,Int.reduceLT,Int.reduceEq,Int.reduceNe,reduceIte,reduceCtorEq,ne_eq,not_true_eq_false,not_false_eq_true,imp_self,implies_true,bls,eq_self,hsl,hcl,hc,hc7,hca,take7 hc7,t7,zD_drop,zD_len,List.append_nil,hXl,hb1,hb2]
    have f1 : Ext U (U ++ [some c]) := .add _
    refine E_call (hP ▸ s_light4) ⟨_, d, rfl, ⟨c, rfl, hec.ext f1⟩, fun hl2 T2 e2 => ?_, fun hl2 T2 e2 => ?_⟩
    rotate_left
    · simp (disch:=first|assumption|omega|(simp only [lens];omega)) only [eqs,↓gvd_succ,↓gvd_zero,↓and_of,im_of,im_of trivial,vlt,hP,hst,initS,Nat.reduceBEq,Nat.reduceAdd,Nat.reduceMul,Nat.reduceSub,Nat.reduceDiv,Nat.reduceMod,Nat.reducePow,Nat.reduceLT,Nat.reduceLeDiff,Nat.reduceEqDiff,Int.reduceAdd,Int.reduceSub,Int.reduceNeg,Int.reduceMul,Int.reduceToNat,Int.reducePow,Int.reduceLE,Int.reduceLT,Int.reduceEq,Int.reduceNe,reduceIte,reduceCtorEq,ne_eq,not_true_eq_false,not_false_eq_true,imp_self,implies_true,bls,eq_self]
      refine E_callA (hP ▸ s_livesW _ hG) ⟨rfl, fun T eT => ?_⟩
      simp (disch:=first|assumption|omega|(simp only [lens];omega)) only [eqs,↓gvd_succ,↓gvd_zero,↓and_of,im_of,im_of trivial,vlt,hP,hst,initS,Nat.reduceBEq,Nat.reduceAdd,Nat.reduceMul,Nat.reduceSub,Nat.reduceDiv,Nat.reduceMod,Nat.reducePow,Nat.reduceLT,Nat.reduceLeDiff,Nat.reduceEqDiff,Int.reduceAdd,Int.reduceSub,Int.reduceNeg,Int.reduceMul,Int.reduceToNat,Int.reducePow,Int.reduceLE,Int.reduceLT,Int.reduceEq,Int.reduceNe,reduceIte,reduceCtorEq,ne_eq,not_true_eq_false,not_false_eq_true,imp_self,implies_true,bls,eq_self]
      exact hK _ (((eU.trans f1).trans e2).trans eT)
    have g2 := (At.ext (c := c) At.mk0 e2).get
    have f2 := f1.trans e2
    simp (disch:=first|assumption|omega|(simp only [lens];omega)) only [eqs,↓gvd_succ,↓gvd_zero,↓and_of,im_of,im_of trivial,vlt,hP,hst,initS,Nat.reduceBEq,Nat.reduceAdd,Nat.reduceMul,Nat.reduceSub,Nat.reduceDiv,Nat.reduceMod,Nat.reducePow,Nat.reduceLT,Nat.reduceLeDiff,Nat.reduceEqDiff,Int.reduceAdd,Int.reduceSub,Int.reduceNeg,Int.reduceMul,Int.reduceToNat,Int.reducePow,Int.reduceLE,Int.reduceLT,Int.reduceEq,Int.reduceNe,reduceIte,reduceCtorEq,ne_eq,not_true_eq_false,not_false_eq_true,imp_self,implies_true,bls,eq_self,g2,hc7,t7]
    refine E_call (hP ▸ s_Small3) ⟨_, d, 50, 20, rfl, ⟨c, rfl, hec.ext f2⟩, by omega, by omega, fun T3 e3 => ?_⟩
    have f3 := f2.trans e3
    have g3 := (At.ext (c := c) At.mk0 (e2.trans e3)).get
    have eT3 := eU.trans f3
    have hdok := light_wOk d hl2.2
    have hdfit := light_fit d hl2.2
    simp (disch:=first|assumption|omega|(simp only [lens];omega)) only [eqs,↓gvd_succ,↓gvd_zero,↓and_of,im_of,im_of trivial,vlt,hP,hst,initS,Nat.reduceBEq,Nat.reduceAdd,Nat.reduceMul,Nat.reduceSub,Nat.reduceDiv,Nat.reduceMod,Nat.reducePow,Nat.reduceLT,Nat.reduceLeDiff,Nat.reduceEqDiff,Int.reduceAdd,Int.reduceSub,Int.reduceNeg,Int.reduceMul,Int.reduceToNat,Int.reducePow,Int.reduceLE,Int.reduceLT,Int.reduceEq,Int.reduceNe,reduceIte,reduceCtorEq,ne_eq,not_true_eq_false,not_false_eq_true,imp_self,implies_true,bls,eq_self]
    refine C_dec (fun h3 => ?_) (fun h3 => ?_)
    · simp (disch:=first|assumption|omega|(simp only [lens];omega)) only [eqs,↓gvd_succ,↓gvd_zero,↓and_of,im_of,im_of trivial,vlt,hP,hst,initS,Nat.reduceBEq,Nat.reduceAdd,Nat.reduceMul,Nat.reduceSub,Nat.reduceDiv,Nat.reduceMod,Nat.reducePow,Nat.reduceLT,Nat.reduceLeDiff,Nat.reduceEqDiff,Int.reduceAdd,Int.reduceSub,Int.reduceNeg,Int.reduceMul,Int.reduceToNat,Int.reducePow,Int.reduceLE,Int.reduceLT,Int.reduceEq,Int.reduceNe,reduceIte,reduceCtorEq,ne_eq,not_true_eq_false,not_false_eq_true,imp_self,implies_true,bls,eq_self]
      refine E_callA (hP ▸ s_livesW _ hG) ⟨rfl, fun T eT => ?_⟩
      simp (disch:=first|assumption|omega|(simp only [lens];omega)) only [eqs,↓gvd_succ,↓gvd_zero,↓and_of,im_of,im_of trivial,vlt,hP,hst,initS,Nat.reduceBEq,Nat.reduceAdd,Nat.reduceMul,Nat.reduceSub,Nat.reduceDiv,Nat.reduceMod,Nat.reducePow,Nat.reduceLT,Nat.reduceLeDiff,Nat.reduceEqDiff,Int.reduceAdd,Int.reduceSub,Int.reduceNeg,Int.reduceMul,Int.reduceToNat,Int.reducePow,Int.reduceLE,Int.reduceLT,Int.reduceEq,Int.reduceNe,reduceIte,reduceCtorEq,ne_eq,not_true_eq_false,not_false_eq_true,imp_self,implies_true,bls,eq_self]
      exact hK _ (eT3.trans eT)
    have h3 := Classical.not_not.1 h3
    have hn := nrm_sz d
    have hlts := hec.lts
    have htl : ∀ raw, (textL raw (nrm d)).length + 10 ≤ 500000000 := fun raw => Nat.le_trans (textL_len raw (nrm d) (nrm_wOk d hdok hlts) (nrm_lts d hlts)) (by omega)
    have ht0 := htl false
    have ht1 := htl true
    have hit := fun raw => its_n raw he
    have hit0 := hit false
    have hit1 := hit true
    have w0 := light_wrt hl2 false
    have w1 := light_wrt hl2 true
    have k1 : (itsL false ((ds.take i).map nrm)).length + 1 + 1 ≤ 9223372036854775807 := by omega
    have k2 : (itsL true ((ds.take i).map nrm)).length + 1 + 1 ≤ 9223372036854775807 := by omega
    have k3 : (itsL false ((ds.take i).map nrm)).length + 1 + (textL false (nrm d)).length ≤ 9223372036854775807 := by omega
    have k4 : (itsL true ((ds.take i).map nrm)).length + 1 + (textL true (nrm d)).length ≤ 9223372036854775807 := by omega
    have k5 : (itsL false ((ds.take i).map nrm)).length + 1 + 1 + (textL false (nrm d)).length ≤ 9223372036854775807 := by omega
    have k6 : (itsL true ((ds.take i).map nrm)).length + 1 + 1 + (textL true (nrm d)).length ≤ 9223372036854775807 := by omega
    simp (disch:=first|assumption|omega|(simp only [lens];omega)) only [eqs,↓gvd_succ,↓gvd_zero,↓and_of,im_of,im_of trivial,vlt,hP,hst,initS,Nat.reduceBEq,Nat.reduceAdd,Nat.reduceMul,Nat.reduceSub,Nat.reduceDiv,Nat.reduceMod,Nat.reducePow,Nat.reduceLT,Nat.reduceLeDiff,Nat.reduceEqDiff,Int.reduceAdd,Int.reduceSub,Int.reduceNeg,Int.reduceMul,Int.reduceToNat,Int.reducePow,Int.reduceLE,Int.reduceLT,Int.reduceEq,Int.reduceNe,reduceIte,reduceCtorEq,ne_eq,not_true_eq_false,not_false_eq_true,imp_self,implies_true,bls,eq_self]
    refine C_dec (fun h4 => ?_) (fun h4 => ?_)
    · rw [if_neg (by omega)] at hit0 hit1
      simp (disch:=first|assumption|omega|(simp only [lens];omega)) only [eqs,↓gvd_succ,↓gvd_zero,↓and_of,im_of,im_of trivial,vlt,hP,hst,initS,Nat.reduceBEq,Nat.reduceAdd,Nat.reduceMul,Nat.reduceSub,Nat.reduceDiv,Nat.reduceMod,Nat.reducePow,Nat.reduceLT,Nat.reduceLeDiff,Nat.reduceEqDiff,Int.reduceAdd,Int.reduceSub,Int.reduceNeg,Int.reduceMul,Int.reduceToNat,Int.reducePow,Int.reduceLE,Int.reduceLT,Int.reduceEq,Int.reduceNe,reduceIte,reduceCtorEq,ne_eq,not_true_eq_false,not_false_eq_true,imp_self,implies_true,bls,eq_self,e32,bstr_append,bstr_size,List.length_append,List.length_cons,List.length_nil,k1,k2,k3,k4,k5,k6]
      refine V_draw [0, 1, 4, 5, 2, 3, 6, 7, 8, 9] (by kernel_rfl) (.cons rfl <| .cons rfl <| .cons rfl <| .cons rfl <| .cons rfl <| .cons rfl <| .cons rfl <| .cons rfl <| .cons rfl <| .cons rfl <| .nil) ?_
      simp (disch:=first|assumption|omega|(simp only [lens];omega)) only [eqs,↓gvd_succ,↓gvd_zero,↓and_of,im_of,im_of trivial,vlt,hP,hst,initS,Nat.reduceBEq,Nat.reduceAdd,Nat.reduceMul,Nat.reduceSub,Nat.reduceDiv,Nat.reduceMod,Nat.reducePow,Nat.reduceLT,Nat.reduceLeDiff,Nat.reduceEqDiff,Int.reduceAdd,Int.reduceSub,Int.reduceNeg,Int.reduceMul,Int.reduceToNat,Int.reducePow,Int.reduceLE,Int.reduceLT,Int.reduceEq,Int.reduceNe,reduceIte,reduceCtorEq,ne_eq,not_true_eq_false,not_false_eq_true,imp_self,implies_true,bls,eq_self,g3,hc7,t7]
      refine E_callA (hP ▸ s_Write _ hG) ⟨_, d, rfl, ⟨c, rfl, hec.ext f3⟩, hdfit, hdok, fun T4 e4 => ?_⟩
      rw [w0]
      simp (disch:=first|assumption|omega|(simp only [lens];omega)) only [eqs,↓gvd_succ,↓gvd_zero,↓and_of,im_of,im_of trivial,vlt,hP,hst,initS,Nat.reduceBEq,Nat.reduceAdd,Nat.reduceMul,Nat.reduceSub,Nat.reduceDiv,Nat.reduceMod,Nat.reducePow,Nat.reduceLT,Nat.reduceLeDiff,Nat.reduceEqDiff,Int.reduceAdd,Int.reduceSub,Int.reduceNeg,Int.reduceMul,Int.reduceToNat,Int.reducePow,Int.reduceLE,Int.reduceLT,Int.reduceEq,Int.reduceNe,reduceIte,reduceCtorEq,ne_eq,not_true_eq_false,not_false_eq_true,imp_self,implies_true,bls,eq_self,e32,bstr_append,bstr_size,List.length_append,List.length_cons,List.length_nil,k1,k2,k3,k4,k5,k6]
      refine E_callA (hP ▸ s_Display _ hG) ⟨_, d, rfl, ⟨c, rfl, hec.ext (f3.trans e4)⟩, hdfit, hdok, fun T5 e5 => ?_⟩
      rw [w1]
      simp (disch:=first|assumption|omega|(simp only [lens];omega)) only [eqs,↓gvd_succ,↓gvd_zero,↓and_of,im_of,im_of trivial,vlt,hP,hst,initS,Nat.reduceBEq,Nat.reduceAdd,Nat.reduceMul,Nat.reduceSub,Nat.reduceDiv,Nat.reduceMod,Nat.reducePow,Nat.reduceLT,Nat.reduceLeDiff,Nat.reduceEqDiff,Int.reduceAdd,Int.reduceSub,Int.reduceNeg,Int.reduceMul,Int.reduceToNat,Int.reducePow,Int.reduceLE,Int.reduceLT,Int.reduceEq,Int.reduceNe,reduceIte,reduceCtorEq,ne_eq,not_true_eq_false,not_false_eq_true,imp_self,implies_true,bls,eq_self,e32,bstr_append,bstr_size,List.length_append,List.length_cons,List.length_nil,k1,k2,k3,k4,k5,k6]
      refine again (i + 1, T5) ⟨hU.trans ((f3.trans e4).trans e5), by dsimp only; omega, fun raw => ?_, fun j d' hj2 hd => ?_⟩ (by dsimp only; omega) rfl (by dsimp only; simp (disch:=first|assumption|omega|(simp only [lens];omega)) only [eqs,↓gvd_succ,↓gvd_zero,↓and_of,im_of,im_of trivial,vlt,hP,hst,initS,Nat.reduceBEq,Nat.reduceAdd,Nat.reduceMul,Nat.reduceSub,Nat.reduceDiv,Nat.reduceMod,Nat.reducePow,Nat.reduceLT,Nat.reduceLeDiff,Nat.reduceEqDiff,Int.reduceAdd,Int.reduceSub,Int.reduceNeg,Int.reduceMul,Int.reduceToNat,Int.reducePow,Int.reduceLE,Int.reduceLT,Int.reduceEq,Int.reduceNe,reduceIte,reduceCtorEq,ne_eq,not_true_eq_false,not_false_eq_true,imp_self,implies_true,bls,eq_self,hit0,hit1] <;> rfl)
      · have r1 := hsz raw
        have r2 := htl raw
        dsimp only
        rw [hit raw, if_neg (by omega)]
        simp only [List.length_append, List.length_cons, List.length_nil]
        omega
      · dsimp only at hj2
        by_cases hji : j = i
        · subst hji
          rw [he] at hd; cases hd
          exact ⟨hl2, h3⟩
        · exact hj j d' (by omega) hd
    · rw [if_pos (by omega)] at hit0 hit1
      simp (disch:=first|assumption|omega|(simp only [lens];omega)) only [eqs,↓gvd_succ,↓gvd_zero,↓and_of,im_of,im_of trivial,vlt,hP,hst,initS,Nat.reduceBEq,Nat.reduceAdd,Nat.reduceMul,Nat.reduceSub,Nat.reduceDiv,Nat.reduceMod,Nat.reducePow,Nat.reduceLT,Nat.reduceLeDiff,Nat.reduceEqDiff,Int.reduceAdd,Int.reduceSub,Int.reduceNeg,Int.reduceMul,Int.reduceToNat,Int.reducePow,Int.reduceLE,Int.reduceLT,Int.reduceEq,Int.reduceNe,reduceIte,reduceCtorEq,ne_eq,not_true_eq_false,not_false_eq_true,imp_self,implies_true,bls,eq_self]
      refine V_draw [0, 1, 4, 5, 2, 3, 6, 7, 8, 9] (by kernel_rfl) (.cons rfl <| .cons rfl <| .cons rfl <| .cons rfl <| .cons rfl <| .cons rfl <| .cons rfl <| .cons rfl <| .cons rfl <| .cons rfl <| .nil) ?_
      simp (disch:=first|assumption|omega|(simp only [lens];omega)) only [eqs,↓gvd_succ,↓gvd_zero,↓and_of,im_of,im_of trivial,vlt,hP,hst,initS,Nat.reduceBEq,Nat.reduceAdd,Nat.reduceMul,Nat.reduceSub,Nat.reduceDiv,Nat.reduceMod,Nat.reducePow,Nat.reduceLT,Nat.reduceLeDiff,Nat.reduceEqDiff,Int.reduceAdd,Int.reduceSub,Int.reduceNeg,Int.reduceMul,Int.reduceToNat,Int.reducePow,Int.reduceLE,Int.reduceLT,Int.reduceEq,Int.reduceNe,reduceIte,reduceCtorEq,ne_eq,not_true_eq_false,not_false_eq_true,imp_self,implies_true,bls,eq_self,g3,hc7,t7]
      refine E_callA (hP ▸ s_Write _ hG) ⟨_, d, rfl, ⟨c, rfl, hec.ext f3⟩, hdfit, hdok, fun T4 e4 => ?_⟩
      rw [w0]
      simp (disch:=first|assumption|omega|(simp only [lens];omega)) only [eqs,↓gvd_succ,↓gvd_zero,↓and_of,im_of,im_of trivial,vlt,hP,hst,initS,Nat.reduceBEq,Nat.reduceAdd,Nat.reduceMul,Nat.reduceSub,Nat.reduceDiv,Nat.reduceMod,Nat.reducePow,Nat.reduceLT,Nat.reduceLeDiff,Nat.reduceEqDiff,Int.reduceAdd,Int.reduceSub,Int.reduceNeg,Int.reduceMul,Int.reduceToNat,Int.reducePow,Int.reduceLE,Int.reduceLT,Int.reduceEq,Int.reduceNe,reduceIte,reduceCtorEq,ne_eq,not_true_eq_false,not_false_eq_true,imp_self,implies_true,bls,eq_self,e32,bstr_append,bstr_size,List.length_append,List.length_cons,List.length_nil,k1,k2,k3,k4,k5,k6]
      refine E_callA (hP ▸ s_Display _ hG) ⟨_, d, rfl, ⟨c, rfl, hec.ext (f3.trans e4)⟩, hdfit, hdok, fun T5 e5 => ?_⟩
      rw [w1]
      simp (disch:=first|assumption|omega|(simp only [lens];omega)) only [eqs,↓gvd_succ,↓gvd_zero,↓and_of,im_of,im_of trivial,vlt,hP,hst,initS,Nat.reduceBEq,Nat.reduceAdd,Nat.reduceMul,Nat.reduceSub,Nat.reduceDiv,Nat.reduceMod,Nat.reducePow,Nat.reduceLT,Nat.reduceLeDiff,Nat.reduceEqDiff,Int.reduceAdd,Int.reduceSub,Int.reduceNeg,Int.reduceMul,Int.reduceToNat,Int.reducePow,Int.reduceLE,Int.reduceLT,Int.reduceEq,Int.reduceNe,reduceIte,reduceCtorEq,ne_eq,not_true_eq_false,not_false_eq_true,imp_self,implies_true,bls,eq_self,e32,bstr_append,bstr_size,List.length_append,List.length_cons,List.length_nil,k1,k2,k3,k4,k5,k6]
      refine again (i + 1, T5) ⟨hU.trans ((f3.trans e4).trans e5), by dsimp only; omega, fun raw => ?_, fun j d' hj2 hd => ?_⟩ (by dsimp only; omega) rfl (by dsimp only; simp (disch:=first|assumption|omega|(simp only [lens];omega)) only [eqs,↓gvd_succ,↓gvd_zero,↓and_of,im_of,im_of trivial,vlt,hP,hst,initS,Nat.reduceBEq,Nat.reduceAdd,Nat.reduceMul,Nat.reduceSub,Nat.reduceDiv,Nat.reduceMod,Nat.reducePow,Nat.reduceLT,Nat.reduceLeDiff,Nat.reduceEqDiff,Int.reduceAdd,Int.reduceSub,Int.reduceNeg,Int.reduceMul,Int.reduceToNat,Int.reducePow,Int.reduceLE,Int.reduceLT,Int.reduceEq,Int.reduceNe,reduceIte,reduceCtorEq,ne_eq,not_true_eq_false,not_false_eq_true,imp_self,implies_true,bls,eq_self,hit0,hit1,List.nil_append] <;> rfl)
      · have r1 := hsz raw
        have r2 := htl raw
        dsimp only
        rw [hit raw, if_pos (by omega)]
        simp only [List.length_append, List.length_cons, List.length_nil]
        omega
      · dsimp only at hj2
        by_cases hji : j = i
        · subst hji
          rw [he] at hd; cases hd
          exact ⟨hl2, h3⟩
        · exact hj j d' (by omega) hd
  · have hie : i = ds.length := by omega
    subst hie
    rw [List.take_length] at hs0 hs1
    have hall : ∀ d ∈ ds, light4 d ∧ d.sz ≤ 50 ∧ d.dp ≤ 20 := fun d hd => by
      obtain ⟨j, hjd⟩ := List.mem_iff_getElem?.1 hd
      exact hj j d (List.getElem?_eq_some_iff.1 hjd).1 hjd
    have hS : szs ds ≤ 500 := Nat.le_trans (szs_le fun d hd => (hall d hd).2.1) (by omega)
    have hD : dps ds ≤ 20 := dps_le fun d hd => (hall d hd).2.2
    have hfl : fits ds := fits_all fun d hd => light_fit d (hall d hd).1.2
    have hol : wOks ds := wOks_all fun d hd => light_wOk d (hall d hd).1.2
    have wl0 := wrt_l hS hD false
    have wl1 := wrt_l hS hD true
    have lfit : (lD ds []).fit := by rw [fit_mk]; exact ⟨by simp, hfl, by rw [fits]; trivial⟩
    have lok : wOk (lD ds []) := by rw [wOk_mk]; exact ⟨by simp, sz0, hol, by rw [wOks]; trivial⟩
    have k1 : (itsL false (ds.map nrm)).length + 1 + 1 ≤ 9223372036854775807 := by omega
    have k2 : (itsL true (ds.map nrm)).length + 1 + 1 ≤ 9223372036854775807 := by omega
    have hUl : st.length < U.length := by have := (e1.trans hU).len; simp at this; omega
    simp (disch:=first|assumption|omega|(simp only [lens];omega)) only [eqs,↓gvd_succ,↓gvd_zero,↓and_of,im_of,im_of trivial,vlt,hP,hst,initS,Nat.reduceBEq,Nat.reduceAdd,Nat.reduceMul,Nat.reduceSub,Nat.reduceDiv,Nat.reduceMod,Nat.reducePow,Nat.reduceLT,Nat.reduceLeDiff,Nat.reduceEqDiff,Int.reduceAdd,Int.reduceSub,Int.reduceNeg,Int.reduceMul,Int.reduceToNat,Int.reducePow,Int.reduceLE,Int.reduceLT,Int.reduceEq,Int.reduceNe,reduceIte,reduceCtorEq,ne_eq,not_true_eq_false,not_false_eq_true,imp_self,implies_true,bls,eq_self,List.take_length,ly,zD_map,zD7,List.append_nil,hXl]
    obtain ⟨V, hV⟩ : ∃ V, U ++ [some [.val (.int .i64 5), .val (.bool false), .val (.slice none 0 0), .val (.bool false), .val (.string ⟨#[]⟩), y, .val (.slice none 0 0)]] = V := ⟨_, rfl⟩
    have eV : Ext U V := ⟨_, hV.symm⟩
    have aV : At V U.length [.val (.int .i64 5), .val (.bool false), .val (.slice none 0 0), .val (.bool false), .val (.string ⟨#[]⟩), y, .val (.slice none 0 0)] := hV ▸ At.mk0
    rw [hV]
    clear hV
    refine E_callA (hP ▸ s_Write _ hG) ⟨_, lD ds [], rfl, DA.mk' Nm.nil (hy.ext (eU.trans eV)) DS.nil, lfit, lok, fun T4 e4 => ?_⟩
    have g4 := (aV.ext e4).get
    rw [wl0]
    simp (disch:=first|assumption|omega|(simp only [lens];omega)) only [eqs,↓gvd_succ,↓gvd_zero,↓and_of,im_of,im_of trivial,vlt,hP,hst,initS,Nat.reduceBEq,Nat.reduceAdd,Nat.reduceMul,Nat.reduceSub,Nat.reduceDiv,Nat.reduceMod,Nat.reducePow,Nat.reduceLT,Nat.reduceLeDiff,Nat.reduceEqDiff,Int.reduceAdd,Int.reduceSub,Int.reduceNeg,Int.reduceMul,Int.reduceToNat,Int.reducePow,Int.reduceLE,Int.reduceLT,Int.reduceEq,Int.reduceNe,reduceIte,reduceCtorEq,ne_eq,not_true_eq_false,not_false_eq_true,imp_self,implies_true,bls,eq_self,g4,e41,bstr_append,bstr_size,List.length_append,List.length_cons,List.length_nil,k1,str_eq2,beq_self_eq_true,decide_true,Bool.not_true]
    refine E_callA (hP ▸ s_Display _ hG) ⟨_, lD ds [], rfl, DA.mk' Nm.nil (hy.ext ((eU.trans eV).trans e4)) DS.nil, lfit, lok, fun T5 e5 => ?_⟩
    have e45 := e4.trans e5
    have e5' := (eU.trans eV).trans e45
    have g5 := (aV.ext e45).get
    have c5 := (At.ext (c := c) At.mk0 (e1.trans (hU.trans (eV.trans e45)))).get
    rw [wl1]
    simp (disch:=first|assumption|omega|(simp only [lens];omega)) only [eqs,↓gvd_succ,↓gvd_zero,↓and_of,im_of,im_of trivial,vlt,hP,hst,initS,Nat.reduceBEq,Nat.reduceAdd,Nat.reduceMul,Nat.reduceSub,Nat.reduceDiv,Nat.reduceMod,Nat.reducePow,Nat.reduceLT,Nat.reduceLeDiff,Nat.reduceEqDiff,Int.reduceAdd,Int.reduceSub,Int.reduceNeg,Int.reduceMul,Int.reduceToNat,Int.reducePow,Int.reduceLE,Int.reduceLT,Int.reduceEq,Int.reduceNe,reduceIte,reduceCtorEq,ne_eq,not_true_eq_false,not_false_eq_true,imp_self,implies_true,bls,eq_self,g5,c5,hc7,t7,e41,bstr_append,bstr_size,List.length_append,List.length_cons,List.length_nil,k2,str_eq2,beq_self_eq_true,decide_true,Bool.not_true]
    refine E_call (hP ▸ s_qNormD) ⟨_, t, rfl, hda.ext e5', hfit, light_few4 hl, fun x' T6 hN => ?_⟩
    obtain ⟨k', g', a', l', b', s', x', y', its', tls', rfl, hne, ha', hxs', hy'⟩ := hN.da.inv
    have e6' := e5'.trans hN.ex
    have a6 := aV.ext (e45.trans hN.ex)
    have g6 := a6.get
    have c6 := (At.ext (c := c) At.mk0 (e1.trans (hU.trans (eV.trans (e45.trans hN.ex))))).get
    have hsl6 := sl_le hsl e6'.le
    simp (disch:=first|assumption|omega|(simp only [lens];omega)) only [eqs,↓gvd_succ,↓gvd_zero,↓and_of,im_of,im_of trivial,vlt,hP,hst,initS,Nat.reduceBEq,Nat.reduceAdd,Nat.reduceMul,Nat.reduceSub,Nat.reduceDiv,Nat.reduceMod,Nat.reducePow,Nat.reduceLT,Nat.reduceLeDiff,Nat.reduceEqDiff,Int.reduceAdd,Int.reduceSub,Int.reduceNeg,Int.reduceMul,Int.reduceToNat,Int.reducePow,Int.reduceLE,Int.reduceLT,Int.reduceEq,Int.reduceNe,reduceIte,reduceCtorEq,ne_eq,not_true_eq_false,not_false_eq_true,imp_self,implies_true,bls,eq_self,hsl6]
    refine G_ndec (fun h5 => ?_) (fun h5 => ?_)
    rotate_left
    · simp (disch:=first|assumption|omega|(simp only [lens];omega)) only [eqs,↓gvd_succ,↓gvd_zero,↓and_of,im_of,im_of trivial,vlt,hP,hst,initS,Nat.reduceBEq,Nat.reduceAdd,Nat.reduceMul,Nat.reduceSub,Nat.reduceDiv,Nat.reduceMod,Nat.reducePow,Nat.reduceLT,Nat.reduceLeDiff,Nat.reduceEqDiff,Int.reduceAdd,Int.reduceSub,Int.reduceNeg,Int.reduceMul,Int.reduceToNat,Int.reducePow,Int.reduceLE,Int.reduceLT,Int.reduceEq,Int.reduceNe,reduceIte,reduceCtorEq,ne_eq,not_true_eq_false,not_false_eq_true,imp_self,implies_true,bls,eq_self,h5]
      refine E_callA (hP ▸ s_livesW _ hG) ⟨rfl, fun T eT => ?_⟩
      simp (disch:=first|assumption|omega|(simp only [lens];omega)) only [eqs,↓gvd_succ,↓gvd_zero,↓and_of,im_of,im_of trivial,vlt,hP,hst,initS,Nat.reduceBEq,Nat.reduceAdd,Nat.reduceMul,Nat.reduceSub,Nat.reduceDiv,Nat.reduceMod,Nat.reducePow,Nat.reduceLT,Nat.reduceLeDiff,Nat.reduceEqDiff,Int.reduceAdd,Int.reduceSub,Int.reduceNeg,Int.reduceMul,Int.reduceToNat,Int.reducePow,Int.reduceLE,Int.reduceLT,Int.reduceEq,Int.reduceNe,reduceIte,reduceCtorEq,ne_eq,not_true_eq_false,not_false_eq_true,imp_self,implies_true,bls,eq_self]
      exact hK _ (e6'.trans eT)
    simp (disch:=first|assumption|omega|(simp only [lens];omega)) only [eqs,↓gvd_succ,↓gvd_zero,↓and_of,im_of,im_of trivial,vlt,hP,hst,initS,Nat.reduceBEq,Nat.reduceAdd,Nat.reduceMul,Nat.reduceSub,Nat.reduceDiv,Nat.reduceMod,Nat.reducePow,Nat.reduceLT,Nat.reduceLeDiff,Nat.reduceEqDiff,Int.reduceAdd,Int.reduceSub,Int.reduceNeg,Int.reduceMul,Int.reduceToNat,Int.reducePow,Int.reduceLE,Int.reduceLT,Int.reduceEq,Int.reduceNe,reduceIte,reduceCtorEq,ne_eq,not_true_eq_false,not_false_eq_true,imp_self,implies_true,bls,eq_self,h5,hsl6]
    refine C_dec (fun h6 => ?_) (fun h6 => ?_)
    · simp (disch:=first|assumption|omega|(simp only [lens];omega)) only [eqs,↓gvd_succ,↓gvd_zero,↓and_of,im_of,im_of trivial,vlt,hP,hst,initS,Nat.reduceBEq,Nat.reduceAdd,Nat.reduceMul,Nat.reduceSub,Nat.reduceDiv,Nat.reduceMod,Nat.reducePow,Nat.reduceLT,Nat.reduceLeDiff,Nat.reduceEqDiff,Int.reduceAdd,Int.reduceSub,Int.reduceNeg,Int.reduceMul,Int.reduceToNat,Int.reducePow,Int.reduceLE,Int.reduceLT,Int.reduceEq,Int.reduceNe,reduceIte,reduceCtorEq,ne_eq,not_true_eq_false,not_false_eq_true,imp_self,implies_true,bls,eq_self]
      refine E_callA (hP ▸ s_livesW _ hG) ⟨rfl, fun T eT => ?_⟩
      simp (disch:=first|assumption|omega|(simp only [lens];omega)) only [eqs,↓gvd_succ,↓gvd_zero,↓and_of,im_of,im_of trivial,vlt,hP,hst,initS,Nat.reduceBEq,Nat.reduceAdd,Nat.reduceMul,Nat.reduceSub,Nat.reduceDiv,Nat.reduceMod,Nat.reducePow,Nat.reduceLT,Nat.reduceLeDiff,Nat.reduceEqDiff,Int.reduceAdd,Int.reduceSub,Int.reduceNeg,Int.reduceMul,Int.reduceToNat,Int.reducePow,Int.reduceLE,Int.reduceLT,Int.reduceEq,Int.reduceNe,reduceIte,reduceCtorEq,ne_eq,not_true_eq_false,not_false_eq_true,imp_self,implies_true,bls,eq_self]
      exact hK _ (e6'.trans eT)
    have h0 : ds.length ≠ 0 := by omega
    have hk : (nrm t).kd ≠ 5 := by rw [hne]; exact h5
    have wt0 := wrt_t hS hD hl h0 hk false
    have wt1 := wrt_t hS hD hl h0 hk true
    have w0 := light_wrt hl false
    have w1 := light_wrt hl true
    have hXU : X.st1.length ≤ U.length := hXl
    have tfit : (lD ds [t]).fit := by rw [fit_mk]; exact ⟨by simp, hfl, by rw [fits, fits]; exact ⟨hfit, trivial⟩⟩
    have tok : wOk (lD ds [t]) := by rw [wOk_mk]; exact ⟨by simp, sz0, hol, by rw [wOks, wOks]; exact ⟨hok, trivial⟩⟩
    have hlts := hdc.lts
    have htl : ∀ raw, (textL raw (nrm t)).length + 10 ≤ 4000000000 := fun raw => Nat.le_trans (textL_len raw (nrm t) (nrm_wOk t hok hlts) (nrm_lts t hlts)) (by have := nrm_sz t; have := hl.1.1; omega)
    have g6' := (a6.ext (.add [some c])).get
    simp (disch:=first|assumption|omega|(simp only [lens];omega)) only [eqs,↓gvd_succ,↓gvd_zero,↓and_of,im_of,im_of trivial,vlt,hP,hst,initS,Nat.reduceBEq,Nat.reduceAdd,Nat.reduceMul,Nat.reduceSub,Nat.reduceDiv,Nat.reduceMod,Nat.reducePow,Nat.reduceLT,Nat.reduceLeDiff,Nat.reduceEqDiff,Int.reduceAdd,Int.reduceSub,Int.reduceNeg,Int.reduceMul,Int.reduceToNat,Int.reducePow,Int.reduceLE,Int.reduceLT,Int.reduceEq,Int.reduceNe,reduceIte,reduceCtorEq,ne_eq,not_true_eq_false,not_false_eq_true,imp_self,implies_true,bls,eq_self,c6,g6',hc7,t7,hca,take7 hc7,zrA1,zD7,List.append_nil,hXU]
    have hUT := a6.lt
    obtain ⟨W, hW⟩ : ∃ W, List.set (T6 ++ [some c]) U.length (some [.val (.int .i64 5), .val (.bool false), .val (.slice none 0 0), .val (.bool false), .val (.string ⟨#[]⟩), y, .own T6.length 0 1 7]) = W := ⟨_, rfl⟩
    have eW : Ext st W := by
      refine take_ext (n := st.length) ?_
      obtain ⟨z, hz⟩ := e6'
      rw [← hW, List.take_set_of_le (by omega), List.take_append_of_le_length (by omega), hz, List.take_left]
    have aW : At W U.length [.val (.int .i64 5), .val (.bool false), .val (.slice none 0 0), .val (.bool false), .val (.string ⟨#[]⟩), y, .own T6.length 0 1 7] := ⟨by rw [← hW, List.getElem?_set_self (by simp; omega)]⟩
    have bW : At W st.length c := ⟨by rw [← hW, List.getElem?_set_ne (by omega), List.getElem?_append_left (by omega)]; exact c6⟩
    have dW : At W T6.length c := ⟨by rw [← hW, List.getElem?_set_ne (by omega), get_app0]; rfl⟩
    rw [hW]
    clear hW
    have tW : DS W (.own T6.length 0 1 7) [t] := DS.own (ds := [t]) dW (.one (hdc.ext eW))
    have lW := tW.leaf
    have gx := aW.get
    have gt := bW.get
    refine V_draw [0, 2, 3, 4, 1, 5, 6, 7, 8, 9, 10, 12, 13, 14, 11, 15, 16, 17, 18, 19, 20, 21, 22, 23] (by kernel_rfl) (.cons rfl <| .cons rfl <| .cons rfl <| .cons rfl <| .cons rfl <| .cons rfl <| .cons rfl <| .cons rfl <| .cons rfl <| .cons rfl <| .cons rfl <| .cons rfl <| .cons rfl <| .cons rfl <| .cons rfl <| .cons rfl <| .cons rfl <| .cons rfl <| .cons rfl <| .cons rfl <| .cons rfl <| .cons rfl <| .cons rfl <| .cons rfl <| .nil) ?_
    have ht0 := htl false
    have ht1 := htl true
    have m1 : (itsL false (ds.map nrm)).length + 1 + 3 ≤ 9223372036854775807 := by omega
    have m2 : (itsL true (ds.map nrm)).length + 1 + 3 ≤ 9223372036854775807 := by omega
    have m3 : (itsL false (ds.map nrm)).length + 3 + 1 + (textL false (nrm t)).length ≤ 9223372036854775807 := by omega
    have m4 : (itsL true (ds.map nrm)).length + 3 + 1 + (textL true (nrm t)).length ≤ 9223372036854775807 := by omega
    have m5 : (itsL false (ds.map nrm)).length + (3 + (textL false (nrm t)).length) + 1 + 1 ≤ 9223372036854775807 := by omega
    have m6 : (itsL true (ds.map nrm)).length + (3 + (textL true (nrm t)).length) + 1 + 1 ≤ 9223372036854775807 := by omega
    simp (disch:=first|assumption|omega|(simp only [lens];omega)) only [eqs,↓gvd_succ,↓gvd_zero,↓and_of,im_of,im_of trivial,vlt,hP,hst,initS,Nat.reduceBEq,Nat.reduceAdd,Nat.reduceMul,Nat.reduceSub,Nat.reduceDiv,Nat.reduceMod,Nat.reducePow,Nat.reduceLT,Nat.reduceLeDiff,Nat.reduceEqDiff,Int.reduceAdd,Int.reduceSub,Int.reduceNeg,Int.reduceMul,Int.reduceToNat,Int.reducePow,Int.reduceLE,Int.reduceLT,Int.reduceEq,Int.reduceNe,reduceIte,reduceCtorEq,ne_eq,not_true_eq_false,not_false_eq_true,imp_self,implies_true,bls,eq_self,gx,gt,hc7,t7,ly,lW,e3,e41,bstr_append,bstr_size,List.length_append,List.length_cons,List.length_nil,m1,m2,m3,m4,m5,m6]
    refine E_callA (hP ▸ s_Write _ hG) ⟨_, lD ds [t], rfl, DA.mk' Nm.nil (hy.ext eW) tW, tfit, tok, fun T7 e7 => ?_⟩
    rw [wt0]
    have e7' := eW.trans e7
    simp (disch:=first|assumption|omega|(simp only [lens];omega)) only [eqs,↓gvd_succ,↓gvd_zero,↓and_of,im_of,im_of trivial,vlt,hP,hst,initS,Nat.reduceBEq,Nat.reduceAdd,Nat.reduceMul,Nat.reduceSub,Nat.reduceDiv,Nat.reduceMod,Nat.reducePow,Nat.reduceLT,Nat.reduceLeDiff,Nat.reduceEqDiff,Int.reduceAdd,Int.reduceSub,Int.reduceNeg,Int.reduceMul,Int.reduceToNat,Int.reducePow,Int.reduceLE,Int.reduceLT,Int.reduceEq,Int.reduceNe,reduceIte,reduceCtorEq,ne_eq,not_true_eq_false,not_false_eq_true,imp_self,implies_true,bls,eq_self]
    refine E_callA (hP ▸ s_Write _ hG) ⟨_, t, rfl, hda.ext e7', hfit, hok, fun T8 e8 => ?_⟩
    rw [w0]
    have e8' := e7'.trans e8
    have gx := (aW.ext (e7.trans e8)).get
    have gt := (bW.ext (e7.trans e8)).get
    simp (disch:=first|assumption|omega|(simp only [lens];omega)) only [eqs,↓gvd_succ,↓gvd_zero,↓and_of,im_of,im_of trivial,vlt,hP,hst,initS,Nat.reduceBEq,Nat.reduceAdd,Nat.reduceMul,Nat.reduceSub,Nat.reduceDiv,Nat.reduceMod,Nat.reducePow,Nat.reduceLT,Nat.reduceLeDiff,Nat.reduceEqDiff,Int.reduceAdd,Int.reduceSub,Int.reduceNeg,Int.reduceMul,Int.reduceToNat,Int.reducePow,Int.reduceLE,Int.reduceLT,Int.reduceEq,Int.reduceNe,reduceIte,reduceCtorEq,ne_eq,not_true_eq_false,not_false_eq_true,imp_self,implies_true,bls,eq_self,gx,gt,hc7,t7,e3,e41,bstr_append,bstr_size,List.length_append,List.length_cons,List.length_nil,m1,m2,m3,m4,m5,m6,str_eq2,beq_self_eq_true,decide_true]
    refine E_callA (hP ▸ s_Display _ hG) ⟨_, lD ds [t], rfl, DA.mk' Nm.nil (hy.ext e8') (tW.ext (e7.trans e8)), tfit, tok, fun T9 e9 => ?_⟩
    rw [wt1]
    have e9' := e8'.trans e9
    simp (disch:=first|assumption|omega|(simp only [lens];omega)) only [eqs,↓gvd_succ,↓gvd_zero,↓and_of,im_of,im_of trivial,vlt,hP,hst,initS,Nat.reduceBEq,Nat.reduceAdd,Nat.reduceMul,Nat.reduceSub,Nat.reduceDiv,Nat.reduceMod,Nat.reducePow,Nat.reduceLT,Nat.reduceLeDiff,Nat.reduceEqDiff,Int.reduceAdd,Int.reduceSub,Int.reduceNeg,Int.reduceMul,Int.reduceToNat,Int.reducePow,Int.reduceLE,Int.reduceLT,Int.reduceEq,Int.reduceNe,reduceIte,reduceCtorEq,ne_eq,not_true_eq_false,not_false_eq_true,imp_self,implies_true,bls,eq_self]
    refine E_callA (hP ▸ s_Display _ hG) ⟨_, t, rfl, hda.ext e9', hfit, hok, fun T10 e10 => ?_⟩
    rw [w1]
    simp (disch:=first|assumption|omega|(simp only [lens];omega)) only [eqs,↓gvd_succ,↓gvd_zero,↓and_of,im_of,im_of trivial,vlt,hP,hst,initS,Nat.reduceBEq,Nat.reduceAdd,Nat.reduceMul,Nat.reduceSub,Nat.reduceDiv,Nat.reduceMod,Nat.reducePow,Nat.reduceLT,Nat.reduceLeDiff,Nat.reduceEqDiff,Int.reduceAdd,Int.reduceSub,Int.reduceNeg,Int.reduceMul,Int.reduceToNat,Int.reducePow,Int.reduceLE,Int.reduceLT,Int.reduceEq,Int.reduceNe,reduceIte,reduceCtorEq,ne_eq,not_true_eq_false,not_false_eq_true,imp_self,implies_true,bls,eq_self,e3,e41,bstr_append,bstr_size,List.length_append,List.length_cons,List.length_nil,m1,m2,m3,m4,m5,m6,str_eq2,beq_self_eq_true,decide_true]
    refine E_callA (hP ▸ s_livesW _ hG) ⟨rfl, fun T11 e11 => ?_⟩
    simp (disch:=first|assumption|omega|(simp only [lens];omega)) only [eqs,↓gvd_succ,↓gvd_zero,↓and_of,im_of,im_of trivial,vlt,hP,hst,initS,Nat.reduceBEq,Nat.reduceAdd,Nat.reduceMul,Nat.reduceSub,Nat.reduceDiv,Nat.reduceMod,Nat.reducePow,Nat.reduceLT,Nat.reduceLeDiff,Nat.reduceEqDiff,Int.reduceAdd,Int.reduceSub,Int.reduceNeg,Int.reduceMul,Int.reduceToNat,Int.reducePow,Int.reduceLE,Int.reduceLT,Int.reduceEq,Int.reduceNe,reduceIte,reduceCtorEq,ne_eq,not_true_eq_false,not_false_eq_true,imp_self,implies_true,bls,eq_self]
    exact hK _ ((e9'.trans e10).trans e11)
end Go.Proofs.Pv
