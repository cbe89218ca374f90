/- The whole functions' contracts as numbers. -/
import Derived.Test.YtmclabehpfpnnaaGreatDoorW13
import Derived.Test.YtmclabehpfpnnaaGreatDoorW14
import Derived.Test.YtmclabehpfpnnaaGreatDoorQ2
import Derived.Test.YtmclabehpfpnnaaGreatDoorQ5
set_option linter.unusedSimpArgs false
set_option linter.unusedVariables false
namespace Go.Proofs.Pv
open Go Go.RowKit Go.Proofs
set_option maxRecDepth 20000

/-- Two whole numbers that are one. -/
theorem PSpec.imp2 {P : Program} {f : FuncId} {R R' : List AV → St → (AV → St → Prop) → Prop} (h : PSpec P f R) (hR : ∀ xs st K, R' xs st K → R xs st K) : PSpec P f R' :=
  ⟨h.1, fun w0 β st w vs xs K hI hv hr => h.2 w0 β st w vs xs K hI hv (hR _ _ _ hr)⟩
/-- A whole number of at most n limbs. -/
def IsZ (st : St) (x : AV) (z : Int) (n : Nat) : Prop := ∃ s l, Wh st x s l ∧ iv s (val l) = z ∧ l.length ≤ n
/-- The same, as it must be. -/
def NZ (st : St) (x : AV) (z : Int) (n : Nat) : Prop := Wh st x (decide (z < 0)) (limbs z.natAbs) ∧ (limbs z.natAbs).length ≤ n
section
variable {st st' : St} {x y : AV} {z w : Int} {n m : Nat}
theorem IsZ.ext (h : IsZ st x z n) (e : Ext st st') : IsZ st' x z n := by obtain ⟨s, l, h1, h2⟩ := h; exact ⟨s, l, h1.ext e, h2⟩
theorem NZ.ext (h : NZ st x z n) (e : Ext st st') : NZ st' x z n := ⟨h.1.ext e, h.2⟩
theorem NZ.toZ (h : NZ st x z n) : IsZ st x z n := ⟨_, _, h.1, iv_limbs z, h.2⟩
theorem IsZ.mk {s : Bool} {l : List Nat} (h : Wh st x s l) (hl : l.length ≤ n) : IsZ st x (iv s (val l)) n := ⟨s, l, h, rfl, hl⟩
theorem IsZ.len (h : IsZ st x z n) : (limbs z.natAbs).length ≤ n := by
  obtain ⟨s, l, ⟨a, _, h1⟩, rfl, h3⟩ := h
  rw [iv_natAbs]
  exact Nat.le_trans (limbs_len h1.lt) h3
theorem NZ.mk (h : GotI st st' x z) (hn : (limbs z.natAbs).length ≤ n) : NZ st' x z n := ⟨h.wh, hn⟩
theorem zlen_add {a b : Int} (h : (limbs a.natAbs).length ≤ n) (h2 : (limbs b.natAbs).length ≤ m) : (limbs (a + b).natAbs).length ≤ n + m + 1 := by
  have := len_add a.natAbs b.natAbs
  have := limbs_len_mono (Int.natAbs_add_le a b)
  omega
theorem zlen_neg {a : Int} (h : (limbs a.natAbs).length ≤ n) : (limbs (-a).natAbs).length ≤ n := by rwa [Int.natAbs_neg]
theorem zlen_sub {a b : Int} (h : (limbs a.natAbs).length ≤ n) (h2 : (limbs b.natAbs).length ≤ m) : (limbs (a - b).natAbs).length ≤ n + m + 1 := by rw [Int.sub_eq_add_neg]; exact zlen_add h (zlen_neg h2)
theorem zlen_mul {a b : Int} (h : (limbs a.natAbs).length ≤ n) (h2 : (limbs b.natAbs).length ≤ m) : (limbs (a * b).natAbs).length ≤ n + m := by
  have := len_mul a.natAbs b.natAbs
  rw [Int.natAbs_mul]
  omega
theorem zlen_tdiv {a b : Int} (h : (limbs a.natAbs).length ≤ n) : (limbs (a.tdiv b).natAbs).length ≤ n := by
  rw [← iv_self a, ← iv_self b, iv_tdiv, iv_natAbs]
  have := len_div a.natAbs b.natAbs
  omega
theorem zlen_fq {a b : Int} (h : (limbs a.natAbs).length ≤ n) : (limbs (fq a b).natAbs).length ≤ n + 2 := by
  have h1 := zlen_tdiv (b := b) h
  unfold fq
  split
  · omega
  · exact zlen_sub h1 (m := 1) (limbs_len_le (by decide))
theorem zlen_tmod {a b : Int} (hb : b ≠ 0) (h : (limbs b.natAbs).length ≤ m) : (limbs (a.tmod b).natAbs).length ≤ m := Nat.le_trans (limbs_len_mono (Nat.le_of_lt (tmod_sign a b hb).1)) h
theorem zlen_fr {a b : Int} (hb : b ≠ 0) (h : (limbs b.natAbs).length ≤ m) : (limbs (fr a b).natAbs).length ≤ m := Nat.le_trans (limbs_len_mono (Nat.le_of_lt (fr_sign a b hb).1)) h
end

def RzTwo (F : Int → Int → Int) (xs : List AV) (st : St) (K : AV → St → Prop) : Prop := ∃ x y z w n m, xs = [x, y] ∧ IsZ st x z n ∧ IsZ st y w m ∧ n ≤ 1000 ∧ m ≤ 1000 ∧ ∀ v S', Ext st S' → NZ S' v (F z w) (n + m + 1) → K v S'
theorem two_z {f : FuncId} {F : Int → Int → Int} (h : PSpec Tryz.prog f (RwTwo F)) (hl : ∀ (a b : Int) (n m : Nat), (limbs a.natAbs).length ≤ n → (limbs b.natAbs).length ≤ m → (limbs (F a b).natAbs).length ≤ n + m + 1) : PSpec Tryz.prog f (RzTwo F) :=
  h.imp2 fun xs st K ⟨x, y, z, w, n, m, e, hx, hy, hn, hm, hK⟩ => by
    have h1 := hl z w n m hx.len hy.len
    obtain ⟨s, l, hx, rfl, h3⟩ := hx
    obtain ⟨t, k, hy, rfl, h4⟩ := hy
    exact ⟨x, y, s, t, l, k, e, hx, hy, by omega, by omega, fun v S' hv => hK v S' hv.ex (.mk hv h1)⟩
theorem z_Add : PSpec Tryz.prog 47 (RzTwo (· + ·)) := two_z s_wAdd fun _ _ _ _ h h2 => zlen_add h h2
theorem z_Sub : PSpec Tryz.prog 48 (RzTwo (· - ·)) := two_z s_wSub fun _ _ _ _ h h2 => zlen_sub h h2
theorem z_Mul : PSpec Tryz.prog 49 (RzTwo (· * ·)) := two_z s_wMul fun _ _ _ _ h h2 => Nat.le_trans (zlen_mul h h2) (by omega)
theorem z_qAdd : PSpec Tryz.prog 58 (RzTwo (· + ·)) := two_z s_qAdd fun _ _ _ _ h h2 => zlen_add h h2
theorem z_qSub : PSpec Tryz.prog 59 (RzTwo (· - ·)) := two_z s_qSub fun _ _ _ _ h h2 => zlen_sub h h2
theorem z_qMul : PSpec Tryz.prog 60 (RzTwo (· * ·)) := two_z s_qMul fun _ _ _ _ h h2 => Nat.le_trans (zlen_mul h h2) (by omega)
def RzOne (F : Int → Int) (xs : List AV) (st : St) (K : AV → St → Prop) : Prop := ∃ x z n, xs = [x] ∧ IsZ st x z n ∧ n ≤ 10000 ∧ ∀ v S', Ext st S' → NZ S' v (F z) n → K v S'
theorem z_Norm : PSpec Tryz.prog 19 (RzOne id) := s_wNorm.imp2 fun xs st K ⟨x, z, n, e, hx, hn, hK⟩ => by
  have h1 := hx.len
  obtain ⟨s, l, hx, rfl, h3⟩ := hx
  exact ⟨x, s, l, e, hx, by omega, fun v S' hv => hK v S' hv.ex (.mk hv h1)⟩
def RzCmp (xs : List AV) (st : St) (K : AV → St → Prop) : Prop := ∃ x y z w n m, xs = [x, y] ∧ IsZ st x z n ∧ IsZ st y w m ∧ n ≤ 1000 ∧ m ≤ 1000 ∧ anyw st (.int .i64 (cmpI z w)) K
theorem z_Cmp : PSpec Tryz.prog 52 RzCmp := s_wCmp.imp2 fun xs st K ⟨x, y, z, w, n, m, e, hx, hy, hn, hm, hK⟩ => by
  obtain ⟨s, l, hx, rfl, h3⟩ := hx
  obtain ⟨t, k, hy, rfl, h4⟩ := hy
  exact ⟨x, y, s, t, l, k, e, hx, hy, by omega, by omega, hK⟩
def RzOf (xs : List AV) (st : St) (K : AV → St → Prop) : Prop := ∃ n : Int, xs = [.val (.int .i64 n)] ∧ -9223372036854775808 ≤ n ∧ n ≤ 9223372036854775807 ∧ ∀ v S', Ext st S' → NZ S' v n 2 → K v S'
def RzSameT (xs : List AV) (st : St) (K : AV → St → Prop) : Prop := ∃ x y z n m, xs = [x, y] ∧ NZ st x z n ∧ NZ st y z m ∧ n ≤ 1000000 ∧ anyw st (.bool true) K
def RzSame (xs : List AV) (st : St) (K : AV → St → Prop) : Prop := ∃ x y z w n m, xs = [x, y] ∧ NZ st x z n ∧ NZ st y w m ∧ n ≤ 1000000 ∧ m ≤ 1000000 ∧ anyw st (.bool (decide (z = w))) K
def RzQuo (FQ FR : Int → Int → Int) (xs : List AV) (st : St) (K : AV → St → Prop) : Prop := ∃ x y z w n m, xs = [x, y] ∧ IsZ st x z n ∧ IsZ st y w m ∧ n ≤ 800 ∧ m ≤ 800 ∧
  (w ≠ 0 → ∀ u v S', Ext st S' → NZ S' u (FQ z w) (n + 2) → NZ S' v (FR z w) m → K (.tup [u, v, .val (.int .i64 0)]) S') ∧
  (w = 0 → ∀ S', Ext st S' → K (.tup [zeroI, zeroI, .val (.int .i64 3)]) S')
theorem quo_z {f : FuncId} {FQ FR : Int → Int → Int} (h : PSpec Tryz.prog f (RwQuo FQ FR)) (h1 : ∀ (a b : Int) (n : Nat), (limbs a.natAbs).length ≤ n → (limbs (FQ a b).natAbs).length ≤ n + 2) (h2 : ∀ (a b : Int) (m : Nat), b ≠ 0 → (limbs b.natAbs).length ≤ m → (limbs (FR a b).natAbs).length ≤ m) : PSpec Tryz.prog f (RzQuo FQ FR) :=
  h.imp2 fun xs st K ⟨x, y, z, w, n, m, e, hx, hy, hn, hm, hK, hK0⟩ => by
    have g1 := h1 z w n hx.len
    have g2 := fun hb => h2 z w m hb hy.len
    obtain ⟨s, l, hx, rfl, h3⟩ := hx
    obtain ⟨t, k, hy, rfl, h4⟩ := hy
    refine ⟨x, y, s, t, l, k, e, hx, hy, by omega, by omega, fun h0 u v S' hu hv => ?_, fun h0 => hK0 (iv_eq_zero.2 h0)⟩
    have h5 : iv t (val k) ≠ 0 := fun h => h0 (iv_eq_zero.1 h)
    exact hK h5 u v S' hu.ex (.mk hu g1) (.mk hv (g2 h5))
theorem z_Quo : PSpec Tryz.prog 50 (RzQuo Int.tdiv Int.tmod) := quo_z s_wQuo (fun _ _ _ h => Nat.le_trans (zlen_tdiv h) (by omega)) (fun _ _ _ hb h => zlen_tmod hb h)
theorem z_Floor : PSpec Tryz.prog 51 (RzQuo fq fr) := quo_z s_wFloor (fun _ _ _ h => zlen_fq h) (fun _ _ _ hb h => zlen_fr hb h)
theorem nz_zero {T : St} : NZ T (.agg [.val (.bool false), .val (.slice none 0 0)]) 0 0 := by
  have h0 : limbs (0 : Int).natAbs = [] := limbs_zero
  refine ⟨?_, by rw [h0]; simp⟩
  rw [h0]
  exact ⟨_, rfl, Nm.nil⟩
def RzText (xs : List AV) (st : St) (K : AV → St → Prop) : Prop := ∃ x z n, xs = [x] ∧ IsZ st x z n ∧ n ≤ 1000 ∧ anyw st (.string (bstr (txtI z))) K
end Go.Proofs.Pv
