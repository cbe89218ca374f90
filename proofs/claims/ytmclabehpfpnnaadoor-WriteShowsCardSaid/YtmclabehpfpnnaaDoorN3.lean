/- Builders of texts: the library's methods, walked in the world. -/
import Derived.Test.YtmclabehpfpnnaaDoorT1
import Derived.Test.YtmclabehpfpnnaaDoorS1
import Derived.Lib.Builder
import Derived.Lib.AppendStr
import Derived.Lib.UnsafeStr
import Derived.Lib.Walk
import Derived.WalkKit
import Derived.Laws.Externs
import Derived.Test.YtmclabehpfpnnaaDoorE14
set_option linter.unusedSimpArgs false
set_option linter.unusedVariables false
namespace Go.Proofs.Pv
open Go Go.RowKit Go.Proofs
set_option maxRecDepth 100000

/-- All but some blocks is as it was. -/
structure Kept (R : Nat → Prop) (w w' : World) : Prop where
  os : w'.os = w.os
  tape : w'.tape = w.tape
  output : w'.output = w.output
  size : w.heap.size ≤ w'.heap.size
  block : ∀ k, k < w.heap.size → ¬R k → w'.heap[k]? = w.heap[k]?
section
variable {R R' : Nat → Prop} {a b c : World}
theorem Kept.refl : Kept R a a := ⟨rfl, rfl, rfl, Nat.le_refl _, fun _ _ _ => rfl⟩
theorem Kept.trans (h : Kept R a b) (k : Kept R b c) : Kept R a c := ⟨k.os.trans h.os, k.tape.trans h.tape, k.output.trans h.output, Nat.le_trans h.size k.size, fun i hi hr => (k.block i (Nat.lt_of_lt_of_le hi h.size) hr).trans (h.block i hi hr)⟩
theorem Kept.wider (h : Kept R a b) (hr : ∀ k, k < a.heap.size → R k → R' k) : Kept R' a b := ⟨h.os, h.tape, h.output, h.size, fun i hi hn => h.block i hi fun h1 => hn (hr i hi h1)⟩
theorem Kept.grown {row : Option Nat} (h : a.grownBy b row) (hr : ∀ k, row = some k → k < a.heap.size → R k) : Kept R a b := ⟨h.os, h.tape, h.output, h.size, fun i hi hn => h.block i hi fun e => hn (hr i e.symm hi)⟩
theorem Kept.below {w w' : World} (h : Below w.heap.size w w') : Kept R w w' := ⟨h.os, h.tape, h.output, h.size, fun i hi _ => h.block i hi⟩
end
theorem kept_set {R : Nat → Prop} {w : World} {p : Addr} {v : Value} (h : R p.block) : Kept R w (w.setCell p v) :=
  ⟨rfl, rfl, rfl, by simp [World.setCell], fun k _ hk => Below.heap_setCell _ _ _ _ (fun e => hk (e ▸ h))⟩

theorem builder_size : (Tryd.prog.info? 67).map (·.size) = some 2 := by kernel_rfl
set_option maxHeartbeats 1000000 in
/-- copyCheck of a builder that has been written to: nothing turns. -/
theorem n_check_used (b : Nat) (w : World) (h0 : w.cell? ⟨b, 0, none⟩ = some (.pointer (some ⟨b, 0, none⟩))) :
    Calls Tryd.prog 106 #[.pointer (some ⟨b, 0, none⟩)] w fun e w' => e = .returned (.tuple #[]) ∧ w' = w := by
  obtain ⟨j, hj, _⟩ := Option.map_eq_some_iff.1 builder_size
  go_enter Tryd.func106, Tryd.ntmps106
  go_wp2
  rw [Lib.run_neq_ptr_same w _ Tryd.underlying64 hj]
  go_wp2
  go_end0
  exact ⟨rfl, rfl⟩
set_option maxHeartbeats 1000000 in
/-- .. of a fresh one: it keeps its own address. -/
theorem n_check_fresh (b : Nat) (w : World) (h0 : w.cell? ⟨b, 0, none⟩ = some (.pointer none)) (hsh : w.shape? b = some (67, 2)) (hfz : w.frozen? ⟨b, 0, none⟩ = false) :
    Calls Tryd.prog 106 #[.pointer (some ⟨b, 0, none⟩)] w fun e w' => e = .returned (.tuple #[]) ∧ w' = w.setCell ⟨b, 0, none⟩ (.pointer (some ⟨b, 0, none⟩)) := by
  obtain ⟨j, hj, hjs⟩ := Option.map_eq_some_iff.1 builder_size
  go_enter Tryd.func106, Tryd.ntmps106
  go_wp2
  rw [Lib.run_to_unsafe w ⟨b, 0, none⟩ Tryd.underlying64 Tryd.underlying120 hj (by rw [hjs]; decide) hsh (Nat.zero_lt_succ 1)]
  simp only [Result.andThen]
  rw [Oper.upon_value]
  go_wp2
  rw [run_callFunc_extern Tryd.func126 (by kernel_rfl) (by kernel_rfl) (by kernel_rfl) (e := Extern.AbiNoEscape.same) (by kernel_rfl)]
  rw [Lib.run_noEscape]
  simp only [Result.andThen]
  rw [Oper.upon_value]
  go_wp2
  rw [Lib.run_from_unsafe w ⟨b, 0, none⟩ Tryd.underlying120 Tryd.underlying64 hj hsh (by kernel_rfl)]
  simp only [Result.andThen]
  rw [Oper.upon_value]
  go_wp2
  go_end0
  exact ⟨rfl, rfl⟩

/-- A builder as it lies: its block b, its buffer v, its bytes. -/
def Bw (b : Nat) (p v : Value) (bs : List Value) (w : World) : Prop :=
  w.heap[b]? = some (.cells #[p, v] 67 (0, 0)) ∧ (p = .pointer none ∨ p = .pointer (some ⟨b, 0, none⟩)) ∧ w.ownsRow b 5 1 v bs.length bs ∧ v.ownBlock ≠ some b
theorem Bw.lt {b : Nat} {p v : Value} {bs : List Value} {w : World} (h : Bw b p v bs w) : b < w.heap.size := (Array.getElem?_eq_some_iff.1 h.1).1
theorem n_check (b : Nat) (p v : Value) (bs : List Value) (w : World) (h : Bw b p v bs w) :
    Calls Tryd.prog 106 #[.pointer (some ⟨b, 0, none⟩)] w fun e w' => e = .returned (.tuple #[]) ∧ Bw b (.pointer (some ⟨b, 0, none⟩)) v bs w' ∧ Kept (fun k => k = b) w w' ∧ w'.heap.size = w.heap.size := by
  obtain ⟨h1, h2, h3, h4⟩ := h
  have c0 : w.cell? ⟨b, 0, none⟩ = some p := by rw [Lib.cell_of_heap h1]; rfl
  rcases h2 with rfl | rfl
  · refine (n_check_fresh b w c0 (by simp [World.shape?, h1]) (Lib.frozen_of_heap h1 0)).mono ?_
    rintro e w' ⟨rfl, rfl⟩
    refine ⟨rfl, ⟨by simp [World.setCell, Array.getElem?_modify, h1], .inr rfl, ?_, h4⟩, kept_set rfl, by simp [World.setCell]⟩
    exact h3.kept (row := some b) ⟨rfl, rfl, rfl, by simp [World.setCell], fun k _ hk => Below.heap_setCell _ _ _ _ (fun e => hk (by simp [e]))⟩ (Or.inr h4)
  · refine (n_check_used b w c0).mono ?_
    rintro e w' ⟨rfl, rfl⟩
    exact ⟨rfl, ⟨h1, .inr rfl, h3, h4⟩, .refl, rfl⟩
theorem info_u8 : (Tryd.prog.info? 5).map (fun i => (i.zero, i.size, i.bytes)) = some (some (.int .u8 0), 1, 1) := by kernel_rfl
/-- What a method that writes leaves: the old block, the old buffer and nothing else has turned; the new buffer lies where the old one lay, or anew. -/
def Wrote (b : Nat) (v : Value) (bs' : List Value) (w w' : World) : Prop :=
  ∃ v', Bw b (.pointer (some ⟨b, 0, none⟩)) v' bs' w' ∧ Kept (fun k => k = b ∨ some k = v.ownBlock) w w' ∧ ∀ g, v'.ownBlock = some g → some g = v.ownBlock ∨ w.heap.size ≤ g ∧ g < w'.heap.size
section
variable {P : Program} {w : World} {t u ty e : TypeId} {i : TypeInfo} {v : Value} {n base : Nat} {xs : List Value}
theorem where_string (ht : P.underlying t = some (.slice e)) (hu : P.underlying u = some .string) (hi : P.info? e = some i) (hz : i.zero = some (.int .u8 0)) (hsize : i.size = 1) (hby : i.bytes = 1)
    (hown : w.ownsRow base e 1 v n xs) (s : ByteArray) (h63 : n + s.size ≤ maxLen) (hbytes : n + s.size ≤ 140737488355328) {v' : Value} {w' : World} (hr : (Builtin.append_ #[t, u] ty #[v, .string s]).run P w = .ok v' w') :
    ∀ g, v'.ownBlock = some g → some g = v.ownBlock ∨ w.heap.size ≤ g ∧ g < w'.heap.size := by
  intro g hg
  have hsmall : n + s.size ≤ 9223372036854775807 := by simp only [maxLen] at h63; omega
  have hxl : xs.length = n := by simpa using hown.1
  rcases hown.2 with ⟨rfl, rfl⟩ | ⟨g0, cap, cur, rfl, hbg, hg0, hnc, hcm, hcs, htake⟩
  · obtain ⟨v2, w2, hr2, ho2, _⟩ := Lib.run_append_own_string (P := P) w w.heap.size t u ty e i ht hu hi hz hsize hby (.slice none 0 0) 0 [] (World.ownsRow_nil w _ e 1) s h63 hbytes (Nat.le_refl _)
    rw [hr] at hr2; cases hr2
    exact .inr (ho2.lt g hg)
  · by_cases hroom : n + s.size ≤ cap
    · have hr2 := Lib.run_append_room_string (P := P) w t u ty e i ht hu hi hsize g0 n cap cur hg0 s hroom (by simp at hcs; omega)
      rw [hr] at hr2; cases hr2
      exact .inl hg.symm
    · have holds : ∀ j u, xs[j]? = some u → w.cell? ((⟨g0, 0, none⟩ : Addr).add j) = some u := hown.cells (g := g0) rfl
      have hr2 := Lib.run_append_grow_string (P := P) w t u ty e i (.int .u8 0) ht hu hi hz ⟨g0, 0, none⟩ n cap xs (by rw [hsize]; simpa using hxl) holds s (by omega) (by omega) (by rw [hby]; exact growslice_fits (by omega) (by omega))
      rw [hr] at hr2; cases hr2
      simp only [Value.ownBlock, Option.some.injEq] at hg
      exact .inr ⟨by omega, by subst hg; simp⟩
theorem where_slice (ht : P.underlying t = some (.slice e)) (hi : P.info? e = some i) (hz : i.zero = some (.int .u8 0)) (hsize : i.size = 1) (hby : i.bytes = 1)
    (hown : w.ownsRow base e 1 v n xs) {a : Addr} {m c : Nat} {news : List Value} (hl : news.length = m * 1) (hnews : ∀ j u, news[j]? = some u → w.cell? (a.add j) = some u) (h1 : ∀ u ∈ news, u.oneCell' = true)
    (h63 : n + m ≤ maxLen) (hbytes : n + m ≤ 140737488355328) {v' : Value} {w' : World} (hr : (Builtin.append_ #[t, t] ty #[v, .slice (some a) m c]).run P w = .ok v' w') :
    ∀ g, v'.ownBlock = some g → some g = v.ownBlock ∨ w.heap.size ≤ g ∧ g < w'.heap.size := by
  intro g hg
  have hsmall : n + m ≤ 9223372036854775807 := by simp only [maxLen] at h63; omega
  have hxl : xs.length = n := by simpa using hown.1
  rcases hown.2 with ⟨rfl, rfl⟩ | ⟨g0, cap, cur, rfl, hbg, hg0, hnc, hcm, hcs, htake⟩
  · obtain ⟨v2, w2, hr2, ho2, _⟩ := run_append_own (P := P) w w.heap.size t ty e i (.int .u8 0) 1 1 ht hi hz hsize hby rfl (by decide) (.slice none 0 0) 0 [] (World.ownsRow_nil w _ e 1) a m c news hl hnews h1 h63 (by omega) (Nat.le_refl _)
    rw [hr] at hr2; cases hr2
    exact .inr (ho2.lt g hg)
  · by_cases hroom : n + m ≤ cap
    · have hr2 := run_append_room (P := P) w t ty e i ht hi g0 n cap cur hg0 a m c news (by rw [hsize]; exact hl) hnews h1 hroom (by rw [hsize]; simp at hcs; omega)
      rw [hr] at hr2; cases hr2
      exact .inl hg.symm
    · have holds : ∀ j u, xs[j]? = some u → w.cell? ((⟨g0, 0, none⟩ : Addr).add j) = some u := hown.cells (g := g0) rfl
      have hr2 := run_append_grow (P := P) (w := w) t ty e i (.int .u8 0) ht hi hz ⟨g0, 0, none⟩ n cap xs (by rw [hsize]; simpa using hxl) holds a m c news (by rw [hsize]; exact hl) hnews (by omega) (by omega) (by rw [hby]; exact growslice_fits (by omega) (by omega))
      rw [hr] at hr2; cases hr2
      simp only [Value.ownBlock, Option.some.injEq] at hg
      exact .inr ⟨by omega, by subst hg; simp⟩
theorem wpl_string {ops : Array Oper} {rest : List Oper} {o : Oper} {a : Act} {Q : Exit → Act → World → Prop} (hgd : o.guard = none) (sl x : Operand) (t u : TypeId)
    (ho : o.op = .call { callee := .builtin .append, args := #[sl, x], argTypes := #[t, u] })
    (base : Nat) (e : TypeId) (i : TypeInfo) (ht : P.underlying t = some (.slice e)) (hu : P.underlying u = some .string) (hi : P.info? e = some i) (hz : i.zero = some (.int .u8 0)) (hsize : i.size = 1) (hby : i.bytes = 1)
    (v : Value) (n : Nat) (xs : List Value) (hs : a.eval sl = v) (hown : w.ownsRow base e 1 v n xs) (s : ByteArray) (hx : a.eval x = .string s)
    (h63 : n + s.size ≤ maxLen) (hbytes : n + s.size ≤ 140737488355328) (hbase : base ≤ w.heap.size)
    (h : ∀ v' w', w'.ownsRow base e 1 v' (n + s.size) (xs ++ Lib.strCells s) → w.grownBy w' v.ownBlock → (∀ g, v'.ownBlock = some g → some g = v.ownBlock ∨ w.heap.size ≤ g ∧ g < w'.heap.size) → wpList P ops Q rest (a.put o.dst v') w') : wpList P ops Q (o :: rest) a w := by
  refine wpList_plain hgd fun K hK => ?_
  obtain ⟨v', w', hr, h2, h3, h4⟩ := Lib.run_append_own_string (P := P) w base t u o.type e i ht hu hi hz hsize hby v n xs hown s h63 hbytes hbase
  unfold Oper.wp execOp
  simp only [ho, resolve, invoke, builtin, Sem.run_bind, Sem.run_pure, Result.andThen_ok, List.map_toArray, List.map_cons, List.map_nil, hs, hx, hr]
  exact hK _ _ (h v' w' h2 h3 (where_string ht hu hi hz hsize hby hown s h63 hbytes hr))
theorem wpl_slice {ops : Array Oper} {rest : List Oper} {o : Oper} {a : Act} {Q : Exit → Act → World → Prop} (hgd : o.guard = none) (sl x : Operand) (t : TypeId)
    (ho : o.op = .call { callee := .builtin .append, args := #[sl, x], argTypes := #[t, t] })
    (base : Nat) (e : TypeId) (i : TypeInfo) (ht : P.underlying t = some (.slice e)) (hi : P.info? e = some i) (hz : i.zero = some (.int .u8 0)) (hsize : i.size = 1) (hby : i.bytes = 1)
    (v : Value) (n : Nat) (xs : List Value) (hs : a.eval sl = v) (hown : w.ownsRow base e 1 v n xs) (ad : Addr) (m c : Nat) (news : List Value) (hx : a.eval x = .slice (some ad) m c) (hl : news.length = m * 1) (hnews : ∀ j u, news[j]? = some u → w.cell? (ad.add j) = some u) (h1 : ∀ u ∈ news, u.oneCell' = true)
    (h63 : n + m ≤ maxLen) (hbytes : n + m ≤ 140737488355328) (hbase : base ≤ w.heap.size)
    (h : ∀ v' w', w'.ownsRow base e 1 v' (n + m) (xs ++ news) → w.grownBy w' v.ownBlock → (∀ g, v'.ownBlock = some g → some g = v.ownBlock ∨ w.heap.size ≤ g ∧ g < w'.heap.size) → wpList P ops Q rest (a.put o.dst v') w') : wpList P ops Q (o :: rest) a w := by
  refine wpList_plain hgd fun K hK => ?_
  obtain ⟨v', w', hr, h2, h3, h4⟩ := run_append_own (P := P) w base t o.type e i (.int .u8 0) 1 1 ht hi hz hsize hby rfl (by decide) v n xs hown ad m c news hl hnews h1 h63 (by omega) hbase
  unfold Oper.wp execOp
  simp only [ho, resolve, invoke, builtin, Sem.run_bind, Sem.run_pure, Result.andThen_ok, List.map_toArray, List.map_cons, List.map_nil, hs, hx, hr]
  exact hK _ _ (h v' w' h2 h3 (where_slice ht hi hz hsize hby hown hl hnews h1 h63 hbytes hr))
end
theorem Bw.put {b : Nat} {p v v' : Value} {bs' : List Value} {w : World} (hb : w.heap[b]? = some (.cells #[p, v] 67 (0, 0))) (hp : p = .pointer none ∨ p = .pointer (some ⟨b, 0, none⟩)) (hown : w.ownsRow b 5 1 v' bs'.length bs') : Bw b p v' bs' (w.setCell ⟨b, 1, none⟩ v') := by
  have hne := Lib.ownBlock_ne hown hb (by decide)
  refine ⟨by simp [World.setCell, Array.getElem?_modify, hb], hp, ?_, hne⟩
  exact hown.kept (row := some b) ⟨rfl, rfl, rfl, by simp [World.setCell], fun k _ hk => Below.heap_setCell _ _ _ _ (fun e => hk (by simp [e]))⟩ (Or.inr hne)
set_option maxHeartbeats 2000000 in
theorem n_writeString (b : Nat) (p v : Value) (bs : List Value) (s : ByteArray) (w : World) (h : Bw b p v bs w) (hlen : bs.length + s.size ≤ 140737488355328) :
    Calls Tryd.prog 74 #[.pointer (some ⟨b, 0, none⟩), .string s] w fun e w' => e = .returned (.tuple #[.int .i64 s.size, .nilIface]) ∧ Wrote b v (bs ++ Lib.strCells s) w w' := by
  obtain ⟨i0, hi, hz0, hz1, hz2⟩ := info_parts info_u8
  go_enter Tryd.func74, Tryd.ntmps74
  go_wp2_with (go_at_call 106; refine (n_check b p v bs _ h).mono ?_)
  rintro e w1 ⟨rfl, h1, k1, -⟩
  have s1 := k1.size
  obtain ⟨hbk, _, hown, hne⟩ := h1
  have c0 : w1.cell? ⟨b, 0, none⟩ = some (.pointer (some ⟨b, 0, none⟩)) := by rw [Lib.cell_of_heap hbk]; rfl
  have c1 : w1.cell? ⟨b, 1, none⟩ = some v := by rw [Lib.cell_of_heap hbk]; rfl
  have hlt : b < w1.heap.size := (Array.getElem?_eq_some_iff.1 hbk).1
  go_wp2_with (at_builtin; refine wpl_string rfl _ _ 65 9 rfl b 5 i0 Tryd.underlying65 Tryd.underlying9 hi hz0 hz1 hz2 _ _ _ rfl hown s rfl ?c3 ?c4 ?c5 ?_)
  case c3 => unfold maxLen; omega
  case c4 => omega
  case c5 => omega
  intro v' w2 hown' hgrow hwh
  have hb2 : w2.heap[b]? = some (.cells #[.pointer (some ⟨b, 0, none⟩), v] 67 (0, 0)) := by
    rw [hgrow.block b hlt (fun e => hne e.symm)]
    exact hbk
  have d0 : w2.cell? ⟨b, 0, none⟩ = some (.pointer (some ⟨b, 0, none⟩)) := by rw [Lib.cell_of_heap hb2]; rfl
  have d1 : w2.cell? ⟨b, 1, none⟩ = some v := by rw [Lib.cell_of_heap hb2]; rfl
  have f1 : w2.frozen? ⟨b, 1, none⟩ = false := Lib.frozen_of_heap hb2 1
  have hlt2 : b < w2.heap.size := (Array.getElem?_eq_some_iff.1 hb2).1
  obtain ⟨ao, n', cap, rfl⟩ : ∃ ao n' cap, v' = .slice ao n' cap := by
    rcases hown'.2 with ⟨hv, _⟩ | ⟨g, cap, cur, hv, _⟩
    · exact ⟨_, _, _, hv⟩
    · exact ⟨_, _, _, hv⟩
  go_wp2
  go_ret2
  refine ⟨rfl, _, Bw.put hb2 (.inr rfl) (by simpa [Lib.strCells_length] using hown'), ?_, fun g hg => ?_⟩
  · exact ((k1.wider fun k _ e => .inl e).trans (Kept.grown hgrow fun k e _ => .inr e.symm)).trans (kept_set (.inl rfl))
  · rcases hwh g hg with h2 | h2
    · exact .inl h2
    · exact .inr ⟨by omega, by simp [World.setCell]; exact h2.2⟩
set_option maxHeartbeats 2000000 in
theorem n_writeByte (b : Nat) (p v : Value) (bs : List Value) (c : Int) (w : World) (h : Bw b p v bs w) (hlen : bs.length + 1 ≤ 140737488355328) :
    Calls Tryd.prog 73 #[.pointer (some ⟨b, 0, none⟩), .int .u8 c] w fun e w' => e = .returned .nilIface ∧ Wrote b v (bs ++ [.int .u8 c]) w w' := by
  obtain ⟨i0, hi, hz0, hz1, hz2⟩ := info_parts info_u8
  go_enter Tryd.func73, Tryd.ntmps73
  go_wp2_with (go_at_call 106; refine (n_check b p v bs _ h).mono ?_)
  rintro e w1 ⟨rfl, h1, k1, -⟩
  have s1 := k1.size
  obtain ⟨hbk, _, hown, hne⟩ := h1
  have c0 : w1.cell? ⟨b, 0, none⟩ = some (.pointer (some ⟨b, 0, none⟩)) := by rw [Lib.cell_of_heap hbk]; rfl
  have c1 : w1.cell? ⟨b, 1, none⟩ = some v := by rw [Lib.cell_of_heap hbk]; rfl
  have hlt : b < w1.heap.size := (Array.getElem?_eq_some_iff.1 hbk).1
  go_wp2_with (at_builtin; refine wpl_slice rfl _ _ 65 rfl b 5 i0 Tryd.underlying65 hi hz0 hz1 hz2 _ _ _ rfl (hown.alloc _) ⟨w1.heap.size, 0, none⟩ 1 1 [.int .u8 c] rfl rfl ?c1 ?c2 ?c3 ?c4 ?c5 ?_)
  case c1 =>
    intro j u hj
    match j, hj with
    | 0, hj => simp at hj; subst hj; simp [Addr.add]
  case c2 => intro u hu; simp at hu; subst hu; rfl
  case c3 => unfold maxLen; omega
  case c4 => omega
  case c5 => simp; omega
  intro v' w2 hown' hgrow hwh
  have hb2 : w2.heap[b]? = some (.cells #[.pointer (some ⟨b, 0, none⟩), v] 67 (0, 0)) := by
    rw [hgrow.block b (by simp; omega) (fun e => hne e.symm), Lib.alloc_old w1 _ b hlt]
    exact hbk
  have d0 : w2.cell? ⟨b, 0, none⟩ = some (.pointer (some ⟨b, 0, none⟩)) := by rw [Lib.cell_of_heap hb2]; rfl
  have d1 : w2.cell? ⟨b, 1, none⟩ = some v := by rw [Lib.cell_of_heap hb2]; rfl
  have f1 : w2.frozen? ⟨b, 1, none⟩ = false := Lib.frozen_of_heap hb2 1
  obtain ⟨g, cap, rfl⟩ : ∃ g cap, v' = .slice (some ⟨g, 0, none⟩) (bs.length + 1) cap := by
    rcases hown'.2 with ⟨_, h0⟩ | ⟨g, cap, cur, hv, _⟩
    · omega
    · exact ⟨g, cap, hv⟩
  go_wp2
  go_ret
  refine ⟨rfl, _, Bw.put hb2 (.inr rfl) (by simpa using hown'), ?_, fun g' hg => ?_⟩
  · exact (((k1.wider fun k _ e => .inl e).trans (Kept.grown (World.grownBy_alloc w1 _ none) fun k e _ => by cases e)).trans (Kept.grown hgrow fun k e _ => .inr e.symm)).trans (kept_set (.inl rfl))
  · rcases hwh g' hg with h2 | h2
    · exact .inl h2
    · exact .inr ⟨by have := h2.1; omega, by simp [World.setCell]; exact h2.2⟩
end Go.Proofs.Pv

/- Builders of texts: what they hold, told. -/
namespace Go.Proofs.Pv
open Go Go.RowKit Go.Proofs
set_option maxRecDepth 100000

theorem kept_freeze {R : Nat → Prop} {w : World} {a : Addr} {n : Nat} (h : R a.block) : Kept R w (w.freeze a n) := by
  refine ⟨by unfold World.freeze; split <;> rfl, by unfold World.freeze; split <;> rfl, by unfold World.freeze; split <;> rfl, by unfold World.freeze; split <;> simp, fun k _ hk => ?_⟩
  unfold World.freeze
  split
  · rfl
  · simp only [Array.getElem?_modify]
    rw [if_neg (fun e : a.block = k => hk (e ▸ h))]
theorem kept_drew {R : Nat → Prop} {w : World} : Kept R w w.drew := ⟨rfl, rfl, rfl, Nat.le_refl _, fun _ _ _ => rfl⟩
theorem kept_alloc {R : Nat → Prop} {w : World} {o : Obj} : Kept R w (w.alloc o) := Kept.grown (World.grownBy_alloc w o none) fun k e _ => by cases e
set_option maxHeartbeats 1000000 in
theorem n_string_bytes (b g cap : Nat) (p : Value) (l : List UInt8) (cur : Array Value) (w : World) (h0 : l ≠ []) (hbk : w.heap[b]? = some (.cells #[p, .slice (some ⟨g, 0, none⟩) l.length cap] 67 (0, 0)))
    (hg : w.heap[g]? = some (.cells cur 5 (0, 0))) (hnc : l.length ≤ cap) (hcm : cap ≤ maxLen) (hcs : cur.size = cap * 1) (hcell : ∀ j x, l[j]? = some x → w.cell? ((⟨g, 0, none⟩ : Addr).add j) = some (.int .u8 x.toNat)) :
    Calls Tryd.prog 65 #[.pointer (some ⟨b, 0, none⟩)] w fun e w' => e = .returned (.string ⟨l.toArray⟩) ∧ Kept (fun k => k = g) w w' := by
  have hl0 : l.length ≠ 0 := by simpa using h0
  have c1 : w.drew.cell? ⟨b, 1, none⟩ = some (.slice (some ⟨g, 0, none⟩) l.length cap) := by
    have : w.drew.heap[b]? = some (.cells #[p, .slice (some ⟨g, 0, none⟩) l.length cap] 67 (0, 0)) := hbk
    rw [Lib.cell_of_heap this]; rfl
  have hSD : (Builtin.unsafeSliceData_ #[65] 99 #[.slice (some ⟨g, 0, none⟩) l.length cap]).run Tryd.prog w.drew = .ok (.pointer (some ⟨g, 0, none⟩)) w.drew :=
    Lib.run_unsafeSliceData_row _ _ _ _ _ _ (by omega)
  have hUS : (Builtin.unsafeString_ #[99, 3] 9 #[.pointer (some ⟨g, 0, none⟩), .int .i64 l.length]).run Tryd.prog w.drew = .ok (.string ⟨l.toArray⟩) (w.drew.freeze ⟨g, 0, none⟩ l.length) :=
    Lib.run_unsafeString_row w.drew 99 3 9 5 Tryd.underlying99 (by kernel_rfl) g cur.size (by have hg' : w.drew.heap[g]? = some (.cells cur 5 (0, 0)) := hg; simp [World.shape?, hg']) l h0 (by omega) (by unfold maxLen at hcm; omega) hcell
  go_enter Tryd.func65, Tryd.ntmps65
  go_wp2
  go_region
  all_goals (go_wp2; go_ret; exact ⟨rfl, kept_drew.trans (kept_freeze rfl)⟩)
theorem unsafe_none (W : World) (q : Option Addr) : (Builtin.unsafeString_ #[99, 3] 9 #[.pointer q, .int .i64 0]).run Tryd.prog W = .ok (.string .empty) W := Lib.run_unsafeString_none W _ _ _ q
set_option maxHeartbeats 1000000 in
theorem n_string_nil (b : Nat) (p : Value) (w : World) (hbk : w.heap[b]? = some (.cells #[p, .slice none 0 0] 67 (0, 0))) :
    Calls Tryd.prog 65 #[.pointer (some ⟨b, 0, none⟩)] w fun e w' => e = .returned (.string ⟨#[]⟩) ∧ Kept (fun _ => False) w w' := by
  have hUS := unsafe_none
  have c1 : w.drew.cell? ⟨b, 1, none⟩ = some (.slice none 0 0) := by
    have : w.drew.heap[b]? = some (.cells #[p, .slice none 0 0] 67 (0, 0)) := hbk
    rw [Lib.cell_of_heap this]; rfl
  have hSD : (Builtin.unsafeSliceData_ #[65] 99 #[.slice none 0 0]).run Tryd.prog w.drew = .ok (.pointer none) w.drew := rfl
  go_enter Tryd.func65, Tryd.ntmps65
  go_wp2
  go_region
  all_goals (go_wp2; go_ret; exact ⟨rfl, kept_drew⟩)
set_option maxHeartbeats 1000000 in
theorem n_string_noroom (b g : Nat) (p : Value) (cur : Array Value) (w : World) (hbk : w.heap[b]? = some (.cells #[p, .slice (some ⟨g, 0, none⟩) 0 0] 67 (0, 0))) (hg : w.heap[g]? = some (.cells cur 5 (0, 0))) :
    Calls Tryd.prog 65 #[.pointer (some ⟨b, 0, none⟩)] w fun e w' => e = .returned (.string ⟨#[]⟩) ∧ Kept (fun _ => False) w w' := by
  have hUS := unsafe_none
  have hlt : b < w.heap.size := (Array.getElem?_eq_some_iff.1 hbk).1
  have c1 : w.drew.cell? ⟨b, 1, none⟩ = some (.slice (some ⟨g, 0, none⟩) 0 0) := by
    have : w.drew.heap[b]? = some (.cells #[p, .slice (some ⟨g, 0, none⟩) 0 0] 67 (0, 0)) := hbk
    rw [Lib.cell_of_heap this]; rfl
  have hSD : (Builtin.unsafeSliceData_ #[65] 99 #[.slice (some ⟨g, 0, none⟩) 0 0]).run Tryd.prog w.drew = .ok (.pointer (some ⟨w.drew.heap.size, 0, none⟩)) (w.drew.alloc (.view ⟨g, 0, none⟩ 5)) :=
    Lib.run_unsafeSliceData_zero w.drew _ _ 5 Tryd.underlying99 ⟨g, 0, none⟩ 0 (5, cur.size) (by have hg' : w.drew.heap[g]? = some (.cells cur 5 (0, 0)) := hg; simp [World.shape?, hg'])
  have c2 : (w.drew.alloc (.view ⟨g, 0, none⟩ 5)).cell? ⟨b, 1, none⟩ = some (.slice (some ⟨g, 0, none⟩) 0 0) := by
    have : (w.drew.alloc (.view ⟨g, 0, none⟩ 5)).heap[b]? = _ := (Lib.alloc_old w.drew _ b hlt).trans hbk
    rw [Lib.cell_of_heap this]; rfl
  have c3 : (w.alloc (.view ⟨g, 0, none⟩ 5)).drew.cell? ⟨b, 1, none⟩ = some (.slice (some ⟨g, 0, none⟩) 0 0) := c2
  have c0 : w.cell? ⟨b, 1, none⟩ = some (.slice (some ⟨g, 0, none⟩) 0 0) := c1
  go_enter Tryd.func65, Tryd.ntmps65
  go_wp2
  go_region
  all_goals (go_wp2; go_ret; exact ⟨rfl, kept_drew.trans kept_alloc⟩)
set_option maxHeartbeats 1000000 in
theorem n_string_room (b g cap : Nat) (p : Value) (w : World) (hc0 : cap ≠ 0) (hbk : w.heap[b]? = some (.cells #[p, .slice (some ⟨g, 0, none⟩) 0 cap] 67 (0, 0))) :
    Calls Tryd.prog 65 #[.pointer (some ⟨b, 0, none⟩)] w fun e w' => e = .returned (.string ⟨#[]⟩) ∧ Kept (fun _ => False) w w' := by
  have hUS := unsafe_none
  have c1 : w.drew.cell? ⟨b, 1, none⟩ = some (.slice (some ⟨g, 0, none⟩) 0 cap) := by
    have : w.drew.heap[b]? = some (.cells #[p, .slice (some ⟨g, 0, none⟩) 0 cap] 67 (0, 0)) := hbk
    rw [Lib.cell_of_heap this]; rfl
  have hSD : (Builtin.unsafeSliceData_ #[65] 99 #[.slice (some ⟨g, 0, none⟩) 0 cap]).run Tryd.prog w.drew = .ok (.pointer (some ⟨g, 0, none⟩)) w.drew :=
    Lib.run_unsafeSliceData_row _ _ _ _ _ _ hc0
  clear hc0
  go_enter Tryd.func65, Tryd.ntmps65
  go_wp2
  go_region
  all_goals (go_wp2; go_ret; exact ⟨rfl, kept_drew⟩)
/-- The text that a builder holds. -/
theorem n_string (b : Nat) (p v : Value) (l : List UInt8) (w : World) (h : Bw b p v (l.map fun x => Value.int .u8 (x.toNat : Int)) w) :
    Calls Tryd.prog 65 #[.pointer (some ⟨b, 0, none⟩)] w fun e w' => e = .returned (.string ⟨l.toArray⟩) ∧ Kept (fun k => some k = v.ownBlock) w w' := by
  obtain ⟨hbk, _, hown, _⟩ := h
  rw [List.length_map] at hown
  by_cases h0 : l = []
  · subst h0
    rcases hown.2 with ⟨rfl, _⟩ | ⟨g, cap, cur, rfl, _, hg, _⟩
    · exact (n_string_nil b p w hbk).mono fun e w' ⟨h1, h2⟩ => ⟨h1, h2.wider fun _ _ h => h.elim⟩
    · by_cases hc : cap = 0
      · subst hc
        exact (n_string_noroom b g p cur w hbk hg).mono fun e w' ⟨h1, h2⟩ => ⟨h1, h2.wider fun _ _ h => h.elim⟩
      · exact (n_string_room b g cap p w hc hbk).mono fun e w' ⟨h1, h2⟩ => ⟨h1, h2.wider fun _ _ h => h.elim⟩
  · rcases hown.2 with ⟨_, hz⟩ | ⟨g, cap, cur, rfl, hbg, hg, hnc, hcm, hcs, htake⟩
    · exact absurd (List.eq_nil_of_length_eq_zero hz) h0
    · refine (n_string_bytes b g cap p l cur w h0 hbk hg hnc hcm hcs fun j x hx => hown.cells (g := g) rfl j _ (by rw [List.getElem?_map, hx]; rfl)).mono fun e w' ⟨h1, h2⟩ => ⟨h1, h2.wider fun k _ h => ?_⟩
      rw [h]; rfl
end Go.Proofs.Pv

/- Builders of texts: the contracts of their methods, for walks. -/
namespace Go.Proofs.Pv
open Go Go.RowKit Go.Proofs
set_option maxRecDepth 20000

section
variable {X : Cx} {β : Bk} {st : St} {w w' : World}
/-- Blocks turned that no object, no mark and nothing kept in mind lies in. -/
theorem Inv.off (hI : Inv X β st w) {R : Nat → Prop} (hk : Kept R w w') (h1 : ∀ k, R k → k < w.heap.size → X.w1.heap.size ≤ k) (h2 : ∀ (r : Nat) cs b m, st[r]? = some (some cs) → β[r]? = some (some (b, m)) → ¬R b) (h3 : ∀ (r : Nat) S G, st[r]? = some (some [.gh S G]) → ∀ k ∈ S, ¬R k) (h4 : ∀ D ∈ X.ds ++ X.ms, ¬R D) : Inv X β st w' := by
  have hmk : ∀ D ∈ X.ds ++ X.ms, D < w.heap.size := fun D hD => by
    have h5 := hI.mks D hD
    rcases Nat.lt_or_ge D w.heap.size with h6 | h6
    · exact h6
    · rw [Array.getElem?_eq_none h6] at h5; cases h5
  refine ⟨hI.b0, hI.b1.trans ⟨hk.os, hk.tape, hk.output, hk.size, fun k hk2 => hk.block k (Nat.lt_of_lt_of_le hk2 hI.b1.size) fun h => by have := h1 k h (Nat.lt_of_lt_of_le hk2 hI.b1.size); omega⟩, hI.len, hI.stp, hI.bep, hI.nw, fun r b m hb => ⟨(hI.ow r b m hb).1, Nat.lt_of_lt_of_le (hI.ow r b m hb).2 hk.size⟩, fun r cs hr => ?_, hI.inj, fun r S G hr => ?_, hI.gi, hI.gm, fun D hD => by rw [hk.block D (hmk D hD) (h4 D hD)]; exact hI.mks D hD, hI.nd⟩
  · obtain ⟨bk, g1, g2⟩ := hI.obj r cs hr
    refine ⟨bk, g1, ?_⟩
    cases bk with
    | none => exact g2
    | some p =>
      obtain ⟨b, m⟩ := p
      obtain ⟨c, e, g3, g4⟩ := g2
      exact ⟨c, e, by rw [hk.block b (hI.ow r b m g1).2 (h2 r cs b m hr g1)]; exact g3, g4⟩
  · obtain ⟨g1, g2, g3, g4, g5⟩ := hI.gh r S G hr
    exact ⟨g1, g1 w w' (fun k hk2 => hk.block k (g3 k hk2).2 (h3 r S G hr k hk2)) g2, fun k hk2 => ⟨(g3 k hk2).1, Nat.lt_of_lt_of_le (g3 k hk2).2 hk.size⟩, g4, g5⟩
/-- A block's number, noted. -/
theorem Inv.reg (hI : Inv X β st w) {g m : Nat} (h1 : X.w1.heap.size ≤ g) (h2 : g < w.heap.size) : Inv X (β ++ [some (g, m)]) (st ++ [none]) w := by
  have hlast : ∀ {r : Nat} {y : Option (Nat × Nat)}, (β ++ [some (g, m)])[r]? = some y → (r < β.length ∧ β[r]? = some y) ∨ (r = β.length ∧ y = some (g, m)) := by
    intro r y h
    rcases Nat.lt_or_ge r β.length with h' | h'
    · rw [List.getElem?_append_left h'] at h; exact .inl ⟨h', h⟩
    · rw [List.getElem?_append_right h'] at h
      rcases Nat.eq_zero_or_pos (r - β.length) with h0 | h0
      · rw [h0] at h; exact .inr ⟨by omega, by simpa using h.symm⟩
      · rw [List.getElem?_eq_none (by simp; omega)] at h; cases h
  have live : ∀ {r : Nat} {ds : List AV}, (st ++ [none])[r]? = some (some ds) → r < st.length ∧ st[r]? = some (some ds) := by
    intro r y h
    rcases Nat.lt_or_ge r st.length with h' | h'
    · rw [List.getElem?_append_left h'] at h; exact ⟨h', h⟩
    · rw [List.getElem?_append_right h'] at h
      rcases Nat.eq_zero_or_pos (r - st.length) with h0 | h0
      · rw [h0] at h; simp at h
      · rw [List.getElem?_eq_none (by simp; omega)] at h; cases h
  have hlen := hI.len
  have blk : ∀ {r : Nat} {ds : List AV} {y : Option (Nat × Nat)}, (st ++ [none])[r]? = some (some ds) → (β ++ [some (g, m)])[r]? = some y → β[r]? = some y := by
    intro r ds y h3 h4
    rcases hlast h4 with ⟨_, h5⟩ | ⟨h5, _⟩
    · exact h5
    · have := (live h3).1; omega
  refine ⟨hI.b0, hI.b1, by simp [hlen], ?_, ?_, ?_, ?_, ?_, ?_, ?_, fun r r' S S' G G' k1 k2 => hI.gi r r' S S' G G' (live k1).2 (live k2).2, fun r S G hr => hI.gm r S G (live hr).2, hI.mks, hI.nd⟩
  · obtain ⟨y, hy⟩ := hI.stp; exact ⟨y ++ [none], by rw [hy]; simp⟩
  · obtain ⟨y, hy⟩ := hI.bep; exact ⟨y ++ [some (g, m)], by rw [← List.append_assoc, ← hy]⟩
  · intro r b m' hr hb
    rcases hlast hb with ⟨_, h⟩ | ⟨_, h⟩
    · exact hI.nw r b m' hr h
    · cases h; exact h1
  · intro r b m' hb
    rcases hlast hb with ⟨_, h⟩ | ⟨_, h⟩
    · exact hI.ow r b m' h
    · cases h; exact ⟨Nat.le_trans hI.b0.size h1, h2⟩
  · intro r ds hr
    obtain ⟨h3, h4⟩ := live hr
    obtain ⟨bk, h5, h6⟩ := hI.obj r ds h4
    refine ⟨bk, by rw [List.getElem?_append_left (by omega)]; exact h5, ?_⟩
    cases bk with
    | none => exact h6
    | some p =>
      obtain ⟨b, m⟩ := p
      obtain ⟨c', e', q4, q5, q6, q7⟩ := h6
      exact ⟨c', e', q4, q5, q6, fun j x hx => by obtain ⟨u, h8, h9⟩ := q7 j x hx; exact ⟨u, h8, h9.ext _⟩⟩
  · intro r r' ds ds' b m1 m2 k1 k2 k3 k4
    exact hI.inj r r' ds ds' b m1 m2 (live k1).2 (live k2).2 (blk k1 k3) (blk k2 k4)
  · intro r S G hr
    obtain ⟨g1, g2, g3, g4, g5, g6⟩ := hI.gh r S G (live hr).2
    refine ⟨g1, g2, g3, g4, fun k hk => ?_, fun r' cs b m' k1 k2 => g6 r' cs b m' (live k1).2 (blk k1 k2)⟩
    obtain ⟨r', m', h7⟩ := g5 k hk
    exact ⟨r', m', by rw [List.getElem?_append_left (List.getElem?_eq_some_iff.1 h7).1]; exact h7⟩
/-- What is kept in mind, kept in another place. -/
theorem Inv.moveGh (hI : Inv X β st w) {r0 r1 : Nat} {S : List Nat} {G : World → Prop} (h1 : st[r1]? = some (some [.gh S G])) (h0 : st[r0]? = some none) (hb : β[r0]? = some none) (hL0 : X.st1.length ≤ r0) (hL1 : X.st1.length ≤ r1) : Inv X β ((st.set r0 (some [.gh S G])).set r1 none) w := by
  have hne : r0 ≠ r1 := by rintro rfl; rw [h0] at h1; cases h1
  have hl0 := (List.getElem?_eq_some_iff.1 h0).1
  have alive : ∀ {q : Nat} {d : List AV}, ((st.set r0 (some [.gh S G])).set r1 none)[q]? = some (some d) → (q = r0 ∧ d = [.gh S G]) ∨ (q ≠ r0 ∧ q ≠ r1 ∧ st[q]? = some (some d)) := fun {q d} h => by
    rw [List.getElem?_set] at h
    by_cases he : r1 = q
    · subst he; rw [if_pos rfl] at h; split at h <;> cases h
    · rw [if_neg he, List.getElem?_set] at h
      by_cases he2 : r0 = q
      · subst he2; rw [if_pos rfl, if_pos hl0] at h; cases h; exact .inl ⟨rfl, rfl⟩
      · rw [if_neg he2] at h; exact .inr ⟨fun e => he2 e.symm, fun e => he e.symm, h⟩
  have old := hI.gh r1 S G h1
  refine ⟨hI.b0, hI.b1, by simp [hI.len], ?_, hI.bep, hI.nw, hI.ow, fun q cs h => ?_, fun q q' cs cs' b m m' k1 k2 k3 k4 => ?_, fun q S' G' h => ?_, fun q q' S1 S2 G1 G2 k1 k2 hq k hk1 hk2 => ?_, fun q S' G' h => ?_, hI.mks, hI.nd⟩
  · obtain ⟨y, hy⟩ := hI.stp
    refine ⟨(y.set (r0 - X.st1.length) (some [.gh S G])).set (r1 - X.st1.length) none, ?_⟩
    rw [hy, List.set_append_right _ _ hL0, List.set_append_right _ _ hL1]
  · rcases alive h with ⟨rfl, rfl⟩ | ⟨_, _, h⟩
    · exact ⟨none, hb, .inr ⟨S, G, rfl⟩⟩
    · exact hI.obj q cs h
  · rcases alive k1 with ⟨rfl, rfl⟩ | ⟨_, _, k1⟩
    · rw [hb] at k3; cases k3
    rcases alive k2 with ⟨rfl, rfl⟩ | ⟨_, _, k2⟩
    · rw [hb] at k4; cases k4
    exact hI.inj q q' cs cs' b m m' k1 k2 k3 k4
  · have fin : (∀ (r' : Nat) cs b m, st[r']? = some (some cs) → β[r']? = some (some (b, m)) → b ∉ S') → ∀ (r' : Nat) cs b m, ((st.set r0 (some [.gh S G])).set r1 none)[r']? = some (some cs) → β[r']? = some (some (b, m)) → b ∉ S' := fun hh r' cs b m k1 k2 => by
      rcases alive k1 with ⟨rfl, rfl⟩ | ⟨_, _, k1⟩
      · rw [hb] at k2; cases k2
      · exact hh r' cs b m k1 k2
    rcases alive h with ⟨hq, he⟩ | ⟨_, _, h⟩
    · subst hq
      simp only [List.cons.injEq, AV.gh.injEq, and_true] at he
      obtain ⟨rfl, rfl⟩ := he
      exact ⟨old.1, old.2.1, old.2.2.1, fun _ => old.2.2.2.1 hL1, old.2.2.2.2.1, fin old.2.2.2.2.2⟩
    · obtain ⟨g1, g2, g3, g4, g5, g6⟩ := hI.gh q S' G' h
      exact ⟨g1, g2, g3, g4, g5, fin g6⟩
  · rcases alive k1 with ⟨e1, he⟩ | ⟨_, hq1, k1'⟩
    · simp only [List.cons.injEq, AV.gh.injEq, and_true] at he
      obtain ⟨rfl, rfl⟩ := he
      rcases alive k2 with ⟨e2, _⟩ | ⟨_, hq2, k2'⟩
      · exact hq (e1.trans e2.symm)
      · exact hI.gi r1 q' _ S2 _ G2 h1 k2' (fun e => hq2 e.symm) k hk1 hk2
    · rcases alive k2 with ⟨e2, he⟩ | ⟨_, hq2, k2'⟩
      · simp only [List.cons.injEq, AV.gh.injEq, and_true] at he
        obtain ⟨rfl, rfl⟩ := he
        exact hI.gi q r1 S1 _ G1 _ k1' h1 hq1 k hk1 hk2
      · exact hI.gi q q' S1 S2 G1 G2 k1' k2' hq k hk1 hk2
  · rcases alive h with ⟨_, he⟩ | ⟨_, _, h⟩
    · simp only [List.cons.injEq, AV.gh.injEq, and_true] at he
      obtain ⟨rfl, rfl⟩ := he
      exact hI.gm r1 _ _ h1
    · exact hI.gm q S' G' h
end

/-- A builder's bytes, kept in mind. -/
def Bd (L : Nat) (st : St) (b : Nat) (bs : List Nat) : Prop := ∃ (r : Nat) (S : List Nat), L ≤ r ∧ st[r]? = some (some [.gh S (BldG S 67 5 b bs)])
/-- All objects as they were (but builders). -/
structure Sub (L : Nat) (st st' : St) : Prop where
  len : st.length ≤ st'.length
  pre : ∃ y, st' = st.take L ++ y
  get : ∀ (i : Nat) cs, st[i]? = some (some cs) → (∀ S G, cs ≠ [.gh S G]) → st'[i]? = some (some cs)
  ghs : ∀ (i : Nat) S G, st[i]? = some (some [.gh S G]) → ∃ S' G', st'[i]? = some (some [.gh S' G'])
theorem bytesV (bs : List Nat) (h : ∀ x ∈ bs, x < 256) : (bs.map fun (n : Nat) => Value.int .u8 (n : Int)) = (bs.map UInt8.ofNat).map fun x => Value.int .u8 (x.toNat : Int) := by
  rw [List.map_map]
  refine List.map_congr_left fun x hx => ?_
  have := h x hx
  simp [Nat.mod_eq_of_lt this]
theorem strCells_bytes (s : ByteArray) : Lib.strCells s = (sb s).map fun (n : Nat) => Value.int .u8 (n : Int) := by
  unfold Lib.strCells sb
  rw [List.map_map]
  rfl
/-- Behind a write: the builder anew. -/
theorem bd_write {X : Cx} {β : Bk} {st : St} {w w' : World} {r b : Nat} {S bs bs' : List Nat} {v : Value} (hI : Inv X β st w) (hL : X.st1.length ≤ r) (hr : st[r]? = some (some [.gh S (BldG S 67 5 b bs)]))
    (hb : b ∈ S) (hv : ∀ g, v.ownBlock = some g → g ∈ S) (hw : Wrote b v (bs'.map fun (n : Nat) => Value.int .u8 (n : Int)) w w') : ∃ ex st', Inv X (β ++ ex) st' w' ∧ Sub X.st1.length st st' ∧ Bd X.st1.length st' b bs' := by
  obtain ⟨v', ⟨h1, h2, h3, h4⟩, hk, hg⟩ := hw
  obtain ⟨g1, g2, g3, g4, g5, g6⟩ := hI.gh r S _ hr
  have hle := hI.b1.size
  have hrl : r < st.length := (List.getElem?_eq_some_iff.1 hr).1
  have alive : ∀ {q : Nat} {d : List AV}, (st.set r none)[q]? = some (some d) → q ≠ r ∧ st[q]? = some (some d) := fun {q d} h => by
    rw [List.getElem?_set] at h
    by_cases he : r = q
    · subst he; rw [if_pos rfl] at h; split at h <;> cases h
    · rw [if_neg he] at h; exact ⟨fun e => he e.symm, h⟩
  have hkS : Kept (fun k => k ∈ S) w w' := hk.wider fun k _ h => by
    rcases h with rfl | h
    · exact hb
    · exact hv k h.symm
  have hI1 := (hI.kill hL).off hkS (fun k hk2 _ => g4 hL k hk2) (fun r' cs b' m q1 q2 => g6 r' cs b' m (alive q1).2 q2) (fun r' S' G' q1 k q2 q3 => hI.gi r' r S' S G' _ (alive q1).2 hr (alive q1).1 k q2 q3) (fun D hD => hI.gm r S _ hr D hD)
  have hlen := hI.len
  have hset : (st.set r none).length = st.length := by simp
  -- where the new buffer lies
  obtain ⟨g, hgw1, hgw2, hgn, hgs⟩ : ∃ g, X.w1.heap.size ≤ g ∧ g < w'.heap.size ∧ (g ∈ S ∨ w.heap.size ≤ g) ∧ ∀ k, v'.ownBlock = some k → k = g := by
    cases hvo : v'.ownBlock with
    | none => exact ⟨b, g4 hL b hb, Nat.lt_of_lt_of_le (g3 b hb).2 hk.size, .inl hb, fun k h => by cases h⟩
    | some q =>
      rcases hg q hvo with h5 | ⟨h5, h6⟩
      · have h7 := hv q h5.symm
        exact ⟨q, g4 hL q h7, Nat.lt_of_lt_of_le (g3 q h7).2 hk.size, .inl h7, fun k h => by cases h; rfl⟩
      · exact ⟨q, by omega, h6, .inr h5, fun k h => by cases h; rfl⟩
  have hI2 := hI1.reg (m := 0) hgw1 hgw2
  have live : ∀ {q : Nat} {d : List AV}, (st.set r none ++ [none])[q]? = some (some d) → q < st.length ∧ q ≠ r ∧ st[q]? = some (some d) := by
    intro q d h
    rcases Nat.lt_or_ge q st.length with h' | h'
    · rw [List.getElem?_append_left (by omega)] at h; exact ⟨h', alive h⟩
    · rw [List.getElem?_append_right (by omega), hset] at h
      rcases Nat.eq_zero_or_pos (q - st.length) with h0 | h0
      · rw [h0] at h; simp at h
      · rw [List.getElem?_eq_none (by simp; omega)] at h; cases h
  have hI3 := hI2.ghost (S := g :: S) (G := BldG (g :: S) 67 5 b bs') bldG_stable
    ⟨by simp [hb], _, v', h1, h2, by simpa using h3, h4, fun k hk2 => by rw [hgs k hk2]; simp⟩
    (fun k hk2 => by
      rcases List.mem_cons.1 hk2 with rfl | hk2
      · exact ⟨hgw1, hgw2⟩
      · exact ⟨g4 hL k hk2, Nat.lt_of_lt_of_le (g3 k hk2).2 hk.size⟩)
    (fun k hk2 => by
      rcases List.mem_cons.1 hk2 with rfl | hk2
      · exact ⟨β.length, 0, by simp⟩
      · obtain ⟨r', m, h7⟩ := g5 k hk2
        exact ⟨r', m, by rw [List.getElem?_append_left (List.getElem?_eq_some_iff.1 h7).1]; exact h7⟩)
    (fun r' cs b' m q1 q2 => by
      obtain ⟨q3, _, q4⟩ := live q1
      rw [List.getElem?_append_left (by omega)] at q2
      have q5 := g6 r' cs b' m q4 q2
      have q6 := (hI.ow r' b' m q2).2
      simp only [List.mem_cons, not_or]
      refine ⟨fun e => ?_, q5⟩
      rcases hgn with h8 | h8
      · exact q5 (e ▸ h8)
      · omega)
    (fun r' S' G' q1 k hk2 hk3 => by
      obtain ⟨_, q3, q4⟩ := live q1
      have q5 := hI.gi r' r S' S G' _ q4 hr q3 k hk3
      rcases List.mem_cons.1 hk2 with rfl | hk2
      · rcases hgn with h8 | h8
        · exact q5 h8
        · have := ((hI.gh r' S' G' q4).2.2.1 k hk3).2; omega
      · exact q5 hk2)
    (fun D hD => by
      have q5 := hI.gm r S _ hr D hD
      simp only [List.mem_cons, not_or]
      refine ⟨fun e => ?_, q5⟩
      rcases hgn with h8 | h8
      · exact q5 (e ▸ h8)
      · have h9 := hI.mks D hD
        rw [Array.getElem?_eq_none (by omega)] at h9; cases h9)
  have hset2 : st.set r none = st.take X.st1.length ++ (st.drop X.st1.length).set (r - X.st1.length) none := by
    conv => lhs; rw [← List.take_append_drop X.st1.length st]
    rw [List.set_append_right _ _ (by rw [List.length_take]; omega), List.length_take, Nat.min_eq_left (by omega)]
  obtain ⟨T1, hT1⟩ : ∃ T1, T1 = (st.set r none ++ [none]) ++ [some [.gh (g :: S) (BldG (g :: S) 67 5 b bs')]] := ⟨_, rfl⟩
  have hT1l : T1.length = st.length + 2 := by rw [hT1]; simp
  have hg1 : T1[st.length + 1]? = some (some [.gh (g :: S) (BldG (g :: S) 67 5 b bs')]) := by
    rw [hT1, List.getElem?_append_right (by simp)]
    simp
  have hg0 : T1[r]? = some none := by
    rw [hT1, List.getElem?_append_left (by simp; omega), List.getElem?_append_left (by simp; omega), List.getElem?_set_self hrl]
  have hβr : β[r]? = some none := by
    obtain ⟨bk, q1, q2⟩ := hI.obj r _ hr
    cases bk with
    | none => exact q1
    | some p => exact (objRel_gh q2).elim
  have hI3 : Inv X (β ++ [some (g, 0), none]) T1 w' := by rw [hT1]; simpa [List.append_assoc] using hI3
  have hlo : ∀ i : Nat, i < st.length → i ≠ r → T1[i]? = st[i]? := fun i hi hne => by
    rw [hT1, List.getElem?_append_left (by simp; omega), List.getElem?_append_left (by simp; omega), List.getElem?_set_ne (fun e => hne e.symm)]
  have hI4 := hI3.moveGh hg1 hg0 (by rw [List.getElem?_append_left (by rw [hI.len]; exact hrl)]; exact hβr) hL (by show X.st1.length ≤ st.length + 1; omega)
  refine ⟨_, _, hI4, ⟨by simp [hT1l], ?_, fun i cs hi hn => ?_, fun i S1 G1 hi => ?_⟩, r, g :: S, hL, ?_⟩
  · have e1 : T1 = st.take X.st1.length ++ ((st.drop X.st1.length).set (r - X.st1.length) none ++ [none] ++ [some [.gh (g :: S) (BldG (g :: S) 67 5 b bs')]]) := by
      rw [hT1, hset2]; simp only [List.append_assoc]
    have e2 : (st.take X.st1.length).length = X.st1.length := by rw [List.length_take]; omega
    rw [e1, List.set_append_right _ _ (by omega), List.set_append_right _ _ (by omega)]
    exact ⟨_, rfl⟩
  · have hil : i < st.length := (List.getElem?_eq_some_iff.1 hi).1
    have hir : i ≠ r := by
      rintro rfl
      rw [hr] at hi
      cases hi
      exact hn _ _ rfl
    rw [List.getElem?_set_ne (by omega), List.getElem?_set_ne (fun e => hir e.symm), hlo i hil hir]
    exact hi
  · have hil : i < st.length := (List.getElem?_eq_some_iff.1 hi).1
    rw [List.getElem?_set_ne (by omega)]
    by_cases hir : i = r
    · subst hir
      rw [List.getElem?_set_self (by omega)]
      exact ⟨_, _, rfl⟩
    · rw [List.getElem?_set_ne (fun e => hir e.symm), hlo i hil hir]
      exact ⟨_, _, hi⟩
  · rw [List.getElem?_set_ne (by omega), List.getElem?_set_self (by omega)]
theorem bd_get {X : Cx} {β : Bk} {st : St} {w : World} {r b : Nat} {S bs : List Nat} (hI : Inv X β st w) (hr : st[r]? = some (some [.gh S (BldG S 67 5 b bs)])) :
    ∃ p v, Bw b p v (bs.map fun (n : Nat) => Value.int .u8 (n : Int)) w ∧ b ∈ S ∧ ∀ g, v.ownBlock = some g → g ∈ S := by
  obtain ⟨_, ⟨h1, p, v, h2, h3, h4, h5, h6⟩, _⟩ := hI.gh r S _ hr
  exact ⟨p, v, ⟨h2, h3, by simpa using h4, h5⟩, h1, h6⟩
def RwB (L : Nat) (xs : List AV) (st : St) (K : AV → St → Prop) : Prop := ∃ (b : Nat) (bs : List Nat) (c : Nat), xs = [.val (.pointer (some ⟨b, 0, none⟩)), .val (.int .u8 (c : Int))] ∧ Bd L st b bs ∧ bs.length + 1 ≤ 140737488355328 ∧ ∀ T, Sub L st T → Bd L T b (bs ++ [c]) → K (.val .nilIface) T
theorem vrels_vals {w0 : World} {β : Bk} {vs : Array Value} {us : List Value} (h : VRels w0 β vs (us.map AV.val)) : vs = us.toArray := by
  apply Array.ext'
  apply List.ext_getElem?
  intro j
  have hl : vs.size = us.length := by simpa using h.1
  by_cases hj : j < us.length
  · have h1 := h.2 j vs[j] (.val us[j]) (by simp [show j < vs.size by omega]) (by simp [hj])
    simp [hj, show j < vs.size by omega, inv_val h1]
  · simp [hj, show ¬j < vs.size by omega]
theorem s_writeByte {X : Cx} (hP : X.P = Tryd.prog) : FSpec X 73 (RwB X.st1.length) := by
  refine ⟨by rw [hP]; kernel_rfl, fun mk β st w vs xs K hI hv hR => ?_⟩
  obtain ⟨b, bs, c, rfl, ⟨r, S, hL, hr⟩, hlen, hK⟩ := hR
  obtain rfl := vrels_vals (us := [.pointer (some ⟨b, 0, none⟩), .int .u8 (c : Int)]) hv
  obtain ⟨p, v, hB, hb, hg⟩ := bd_get hI hr
  rw [hP]
  refine (n_writeByte b p v _ c w hB (by simpa using hlen)).mono ?_
  rintro e w' ⟨rfl, hw⟩
  obtain ⟨ex, T, h1, h2, h3⟩ := bd_write (bs' := bs ++ [c]) hI hL hr hb hg (by simpa using hw)
  exact ⟨_, _, ex, T, rfl, hP ▸ h1, .val _, hK T h2 h3⟩
def RwS (L : Nat) (xs : List AV) (st : St) (K : AV → St → Prop) : Prop := ∃ (b : Nat) (bs : List Nat) (s : ByteArray), xs = [.val (.pointer (some ⟨b, 0, none⟩)), .val (.string s)] ∧ Bd L st b bs ∧ bs.length + s.size ≤ 140737488355328 ∧ ∀ T v, Sub L st T → Bd L T b (bs ++ sb s) → K (.val v) T
theorem s_writeString {X : Cx} (hP : X.P = Tryd.prog) : FSpec X 74 (RwS X.st1.length) := by
  refine ⟨by rw [hP]; kernel_rfl, fun mk β st w vs xs K hI hv hR => ?_⟩
  obtain ⟨b, bs, s, rfl, ⟨r, S, hL, hr⟩, hlen, hK⟩ := hR
  obtain rfl := vrels_vals (us := [.pointer (some ⟨b, 0, none⟩), .string s]) hv
  obtain ⟨p, v, hB, hb, hg⟩ := bd_get hI hr
  rw [hP]
  refine (n_writeString b p v _ s w hB (by simpa using hlen)).mono ?_
  rintro e w' ⟨rfl, hw⟩
  obtain ⟨ex, T, h1, h2, h3⟩ := bd_write (bs' := bs ++ sb s) hI hL hr hb hg (by rw [strCells_bytes] at hw; simpa using hw)
  exact ⟨_, _, ex, T, rfl, hP ▸ h1, .val _, hK T _ h2 h3⟩
def RbS (L : Nat) (xs : List AV) (st : St) (K : AV → St → Prop) : Prop := ∃ (b : Nat) (bs : List Nat), xs = [.val (.pointer (some ⟨b, 0, none⟩))] ∧ Bd L st b bs ∧ (∀ x ∈ bs, x < 256) ∧ ∀ T, (∃ y, T = st.take L ++ y) → K (.val (.string (bstr bs))) T
theorem s_bString {X : Cx} (hP : X.P = Tryd.prog) : FSpec X 65 (RbS X.st1.length) := by
  refine ⟨by rw [hP]; kernel_rfl, fun mk β st w vs xs K hI hv hR => ?_⟩
  obtain ⟨b, bs, rfl, ⟨r, S, hL, hr⟩, hlt, hK⟩ := hR
  obtain rfl := vrels_vals (us := [.pointer (some ⟨b, 0, none⟩)]) hv
  obtain ⟨p, v, hB, hb, hg⟩ := bd_get hI hr
  rw [hP]
  rw [bytesV bs hlt] at hB
  refine (n_string b p v _ w hB).mono ?_
  rintro e w' ⟨rfl, hk⟩
  obtain ⟨g1, g2, g3, g4, g5, g6⟩ := hI.gh r S _ hr
  have hL' : X.st1.length ≤ r := hL
  have alive : ∀ {q : Nat} {d : List AV}, (st.set r none)[q]? = some (some d) → q ≠ r ∧ st[q]? = some (some d) := fun {q d} h => by
    rw [List.getElem?_set] at h
    by_cases he : r = q
    · subst he; rw [if_pos rfl] at h; split at h <;> cases h
    · rw [if_neg he] at h; exact ⟨fun e => he e.symm, h⟩
  have hkS : Kept (fun k => k ∈ S) w w' := hk.wider fun k _ h => hg k h.symm
  have hI1 := (hI.kill (r := r) hL).off hkS (fun k hk2 _ => g4 hL k hk2) (fun r' cs b' m q1 q2 => g6 r' cs b' m (alive q1).2 q2) (fun r' S' G' q1 k q2 q3 => hI.gi r' r S' S G' _ (alive q1).2 hr (alive q1).1 k q2 q3) (fun D hD => hI.gm r S _ hr D hD)
  have hrl : r < st.length := (List.getElem?_eq_some_iff.1 hr).1
  have hset2 : st.set r none = st.take X.st1.length ++ (st.drop X.st1.length).set (r - X.st1.length) none := by
    conv => lhs; rw [← List.take_append_drop X.st1.length st]
    rw [List.set_append_right _ _ (by rw [List.length_take]; omega), List.length_take, Nat.min_eq_left (by omega)]
  exact ⟨_, .val _, [], st.set r none, rfl, by rw [List.append_nil]; exact hP ▸ hI1, .val _, hK _ ⟨_, hset2⟩⟩
end Go.Proofs.Pv
