/- The engine's thirteenth part: values' equations. -/
import Derived.Test.YtdaidpomfkgbeaaE12
set_option linter.unusedSimpArgs false
set_option linter.unusedVariables false
namespace Go.Proofs.Pv
open Go Go.RowKit

/-- Rows of numbers. -/
def u32s (l : List Nat) : List AV := l.map fun (n : Nat) => .val (.int .u32 (n : Int))
def u8s (l : List Nat) : List AV := l.map fun (n : Nat) => .val (.int .u8 (n : Int))

section
variable {l m : List Nat} {rest : List AV} {i : Nat} {x : Int}
theorem u32s_length : (u32s l).length = l.length := by simp [u32s]
theorem u8s_length : (u8s l).length = l.length := by simp [u8s]
theorem u32s_leaf : (u32s l).all leaf = true := by simp [u32s, leaf, Value.oneCell']
theorem u8s_leaf : (u8s l).all leaf = true := by simp [u8s, leaf, Value.oneCell']
theorem u32s_get (h : i < l.length) : (u32s l)[i]? = some (.val (.int .u32 (l.getD i 0 : Nat))) := by simp [u32s, h]
theorem u8s_get (h : i < l.length) : (u8s l)[i]? = some (.val (.int .u8 (l.getD i 0 : Nat))) := by simp [u8s, h]
theorem u32s_take : (u32s l).take i = u32s (l.take i) := by simp [u32s, List.map_take]
theorem u8s_take : (u8s l).take i = u8s (l.take i) := by simp [u8s, List.map_take]
theorem u32s_drop : (u32s l).drop i = u32s (l.drop i) := by simp [u32s, List.map_drop]
theorem u8s_drop : (u8s l).drop i = u8s (l.drop i) := by simp [u8s, List.map_drop]
theorem u32s_app : u32s l ++ u32s m = u32s (l ++ m) := by simp [u32s]
theorem u8s_app : u8s l ++ u8s m = u8s (l ++ m) := by simp [u8s]
theorem u32s_put (h : 0 ≤ x) : put1 (u32s l) i (.val (.int .u32 x)) = u32s (l.set i x.toNat) := by
  unfold put1 u32s
  rw [List.map_set, Int.toNat_of_nonneg h]
theorem u8s_put (h : 0 ≤ x) : put1 (u8s l) i (.val (.int .u8 x)) = u8s (l.set i x.toNat) := by
  unfold put1 u8s
  rw [List.map_set, Int.toNat_of_nonneg h]
theorem u32s_zero {n : Nat} : zrow n [.int .u32 0] = u32s (List.replicate n 0) := by simp [zrow, u32s]
theorem u8s_zero {n : Nat} : zrow n [.int .u8 0] = u8s (List.replicate n 0) := by simp [zrow, u8s]
theorem u32s_pre : (u32s l ++ rest).take l.length = u32s l := by rw [← u32s_length (l := l)]; exact List.take_left
theorem u8s_pre : (u8s l ++ rest).take l.length = u8s l := by rw [← u8s_length (l := l)]; exact List.take_left
theorem u32s_all : u32s (l.take l.length) = u32s l := by rw [List.take_length]

theorem leaf_int {k : IntKind} {n : Int} : leaf (.val (.int k n)) = true := rfl
theorem leaf_bool {b : Bool} : leaf (.val (.bool b)) = true := rfl
theorem leaf_str {b : ByteArray} : leaf (.val (.string b)) = true := rfl
theorem leaf_nil {n c : Nat} : leaf (.val (.slice none n c)) = true := rfl
theorem leaf_im {n : Nat} {cs : List AV} : leaf (.im n cs) = true := rfl
theorem leaf_own {r off n sz : Nat} : leaf (.own r off n sz) = true := rfl
theorem ok_agg {cs : List AV} : okCells (.agg cs) = cs.all leaf := rfl
theorem ok_leaf {x : AV} (h : leaf x = true) : okCells x = true := by
  cases x <;> first | exact h | cases h
theorem ok_int {k : IntKind} {n : Int} : okCells (.val (.int k n)) = true := rfl
theorem ok_bool {b : Bool} : okCells (.val (.bool b)) = true := rfl
theorem ok_str {b : ByteArray} : okCells (.val (.string b)) = true := rfl
theorem ok_nil {n c : Nat} : okCells (.val (.slice none n c)) = true := rfl
theorem ok_im {n : Nat} {cs : List AV} : okCells (.im n cs) = true := rfl
theorem ok_own {r off n sz : Nat} : okCells (.own r off n sz) = true := rfl
theorem cells_val {v : Value} : cellsA (.val v) = [.val v] := rfl
theorem cells_im {n : Nat} {cs : List AV} : cellsA (.im n cs) = [.im n cs] := rfl
theorem cells_own {r off n sz : Nat} : cellsA (.own r off n sz) = [.own r off n sz] := rfl
theorem put1_val0 {c : AV} {cs : List AV} {v : Value} : put1 (c :: cs) 0 (.val v) = .val v :: cs := rfl
theorem put1_valS {c : AV} {cs : List AV} {n : Nat} {v : Value} : put1 (c :: cs) (n + 1) (.val v) = c :: put1 cs n (.val v) := rfl
theorem put1_own {cs : List AV} {i r off n sz : Nat} : put1 cs i (.own r off n sz) = cs.set i (.own r off n sz) := rfl
theorem put1_im {cs ds : List AV} {i n : Nat} : put1 cs i (.im n ds) = cs.set i (.im n ds) := rfl
theorem cast0 : ((0 : Nat) : Int) = 0 := rfl
theorem cast1 : ((1 : Nat) : Int) = 1 := rfl
theorem cast_succ {n : Nat} : ((n + 1 : Nat) : Int) = (n : Int) + 1 := rfl
theorem cells_agg {cs : List AV} : cellsA (.agg cs) = cs := rfl
theorem cells_leaf {x : AV} (h : leaf x = true) : cellsA x = [x] := by
  cases x <;> first | rfl | cases h
theorem put1_leaf {x : AV} {cs : List AV} {off : Nat} (h : leaf x = true) : put1 cs off x = cs.set off x := by
  cases x <;> first | rfl | cases h
theorem put1_agg {ys cs : List AV} {off : Nat} : put1 cs off (.agg ys) = cs.take off ++ ys ++ cs.drop (off + ys.length) := rfl
theorem part_f {cs : List AV} {off sz : Nat} {K : AV → Prop} : partA cs off sz false K = match cs[off]? with | some x => K x | none => False := rfl
theorem part_t {cs : List AV} {off sz : Nat} {K : AV → Prop} : partA cs off sz true K = (off + sz ≤ cs.length ∧ K (.agg ((cs.drop off).take sz))) := rfl
theorem cutA_own {r off n s l m sz : Nat} : cutA (.own r off n s) l m sz = .own r (off + l * sz) m s := rfl
theorem cutA_im {n l m sz : Nat} {cs : List AV} : cutA (.im n cs) l m sz = .im m ((cs.drop (l * sz)).take (m * sz)) := rfl
theorem sl_own_eq {sz r off n s : Nat} {st : St} : sl sz st (.own r off n s) = if s = sz then match st[r]? with
    | some (some cs) => if ((cs.drop off).take (n * sz)).length = n * sz then some (n, (cs.drop off).take (n * sz)) else none
    | _ => none
    else none := rfl
theorem sl_im_eq {sz n : Nat} {st : St} {cs : List AV} : sl sz st (.im n cs) = if cs.length = n * sz then some (n, cs) else none := rfl
theorem sl_nil_eq {sz : Nat} {st : St} : sl sz st (.val (.slice none 0 0)) = some (0, []) := rfl
theorem slc_own_eq {r off n s : Nat} {st : St} : slc st (.own r off n s) = match st[r]? with
    | some (some cs) => some (n, (cs.drop off).take (n * s))
    | _ => none := rfl
theorem slc_im_eq {n : Nat} {st : St} {cs : List AV} : slc st (.im n cs) = some (n, cs) := rfl
theorem slc_nil_eq {st : St} : slc st (.val (.slice none 0 0)) = some (0, []) := rfl
theorem slb_nn {n : Nat} {F : Nat → Nat → Prop} : sliceB none none n F = F 0 n := rfl
theorem slb_ln {n : Nat} {k : IntKind} {l : Int} {F : Nat → Nat → Prop} : sliceB (some (.val (.int k l))) none n F = (0 ≤ l ∧ l ≤ n ∧ F l.toNat n) := rfl
theorem slb_nh {n : Nat} {k : IntKind} {h : Int} {F : Nat → Nat → Prop} : sliceB none (some (.val (.int k h))) n F = (0 ≤ h ∧ h ≤ n ∧ F 0 h.toNat) := rfl
theorem slb_lh {n : Nat} {k k2 : IntKind} {l h : Int} {F : Nat → Nat → Prop} : sliceB (some (.val (.int k l))) (some (.val (.int k2 h))) n F = (0 ≤ l ∧ l ≤ h ∧ h ≤ n ∧ F l.toNat h.toNat) := rfl
theorem good_int {k : IntKind} {z : List Value} : (TI.int k z).good = true := rfl
theorem good_bool {z : List Value} : (TI.bool z).good = true := rfl
theorem good_str {z : List Value} : (TI.str z).good = true := rfl
theorem good_slice {e sz b : Nat} {ez z : List Value} : (TI.slice e sz b ez z).good = true := rfl
theorem good_struct {fs : List (Nat × Nat × Bool)} {sz : Nat} {z : List Value} : (TI.struct fs sz z).good = true := rfl
theorem good_oth {z : List Value} : (TI.oth z).good = true := rfl
theorem size_int {k : IntKind} {z : List Value} : (TI.int k z).size = 1 := rfl
theorem size_bool {z : List Value} : (TI.bool z).size = 1 := rfl
theorem size_str {z : List Value} : (TI.str z).size = 1 := rfl
theorem size_slice {e sz b : Nat} {ez z : List Value} : (TI.slice e sz b ez z).size = 1 := rfl
theorem size_struct {fs : List (Nat × Nat × Bool)} {sz : Nat} {z : List Value} : (TI.struct fs sz z).size = sz := rfl
theorem size_oth {z : List Value} : (TI.oth z).size = 1 := rfl
theorem agg_int {k : IntKind} {z : List Value} : (TI.int k z).isAgg = false := rfl
theorem agg_bool {z : List Value} : (TI.bool z).isAgg = false := rfl
theorem agg_str {z : List Value} : (TI.str z).isAgg = false := rfl
theorem agg_slice {e sz b : Nat} {ez z : List Value} : (TI.slice e sz b ez z).isAgg = false := rfl
theorem agg_struct {fs : List (Nat × Nat × Bool)} {sz : Nat} {z : List Value} : (TI.struct fs sz z).isAgg = true := rfl
theorem agg_oth {z : List Value} : (TI.oth z).isAgg = false := rfl
theorem zero_int {k : IntKind} {z : List Value} : (TI.int k z).zero = z := rfl
theorem zero_bool {z : List Value} : (TI.bool z).zero = z := rfl
theorem zero_str {z : List Value} : (TI.str z).zero = z := rfl
theorem zero_slice {e sz b : Nat} {ez z : List Value} : (TI.slice e sz b ez z).zero = z := rfl
theorem zero_struct {fs : List (Nat × Nat × Bool)} {sz : Nat} {z : List Value} : (TI.struct fs sz z).zero = z := rfl
theorem zero_oth {z : List Value} : (TI.oth z).zero = z := rfl
theorem not_dec {p : Prop} [Decidable p] : (!decide p) = decide (¬p) := by by_cases h : p <;> simp [h]
theorem fill_nil {place : Nat → Option (Nat × Nat)} {cells : List AV} : fillA place cells [] = some cells := rfl
theorem fill_cons {place : Nat → Option (Nat × Nat)} {cells : List AV} {i : Nat} {x : AV} {rest : List (Nat × AV)} : fillA place cells ((i, x) :: rest) = match place i with
    | none => none
    | some (off, size) => if okCells x = true ∧ (cellsA x).length = size ∧ off + size ≤ cells.length then fillA place (cells.take off ++ cellsA x ++ cells.drop (off + size)) rest else none := rfl
theorem res_nil {X : Cx} {st : St} {s : Sl} {K : List AV → Prop} : resA X st s [] K = K [] := rfl
theorem res_tmp {X : Cx} {st : St} {s : Sl} {t : Nat} {rs : List ResultVar} {K : List AV → Prop} : resA X st s (.tmp t :: rs) K = resA X st s rs fun xs => K (Sl.get s t :: xs) := rfl
theorem res_cell {X : Cx} {st : St} {s : Sl} {c t : Nat} {rs : List ResultVar} {K : List AV → Prop} : resA X st s (.cell c t :: rs) K = match Sl.get s c with
    | .ptr r off => match st[r]? with
      | some (some cs) => (ti X.P t).good = true ∧ partA cs off (ti X.P t).size (ti X.P t).isAgg fun y => resA X st s rs fun xs => K (y :: xs)
      | _ => False
    | _ => False := rfl
theorem ret_one {x : AV} : retA [x] = x := rfl
theorem ret_none : retA [] = .tup [] := rfl
theorem ret_two {x y : AV} {l : List AV} : retA (x :: y :: l) = .tup (x :: y :: l) := rfl
theorem body_n {X : Cx} {rs : List ResultVar} {K : AV → St → Prop} {s : Sl} {st : St} : bodyK X rs K .normal s st = resA X st s rs fun xs => K (retA xs) st := rfl
theorem body_r {X : Cx} {rs : List ResultVar} {K : AV → St → Prop} {s : Sl} {st : St} : bodyK X rs K .ret s st = resA X st s rs fun xs => K (retA xs) st := rfl
theorem get_app0 {α : Type} {a b : List α} : (a ++ b)[a.length]? = b[0]? := by rw [List.getElem?_append_right (Nat.le_refl _), Nat.sub_self]
theorem get_app {α : Type} {a b : List α} {n : Nat} : (a ++ b)[a.length + n]? = b[n]? := by rw [List.getElem?_append_right (Nat.le_add_right _ _), Nat.add_sub_cancel_left]
theorem set_app0 {α : Type} {a b : List α} {v : α} : (a ++ b).set a.length v = a ++ b.set 0 v := by rw [List.set_append_right _ _ (Nat.le_refl _), Nat.sub_self]
theorem set_app {α : Type} {a b : List α} {n : Nat} {v : α} : (a ++ b).set (a.length + n) v = a ++ b.set n v := by rw [List.set_append_right _ _ (Nat.le_add_right _ _), Nat.add_sub_cancel_left]
theorem toNat_sub1 {m : Nat} : ((m : Int) - 1).toNat = m - 1 := by omega
theorem toNat_sub {m n : Nat} : ((m : Int) - (n : Int)).toNat = m - n := by omega
theorem toNat_add1 {m : Nat} : ((m : Int) + 1).toNat = m + 1 := by omega
theorem toNat_add {m n : Nat} : ((m : Int) + (n : Int)).toNat = m + n := by omega
theorem getD_take {i m : Nat} {l : List Nat} (h : i < m) : (l.take m).getD i 0 = l.getD i 0 := by
  rw [List.getD_eq_getElem?_getD, List.getElem?_take_of_lt h, List.getD_eq_getElem?_getD]
theorem tdiv_nat {m n : Nat} : (m : Int).tdiv (n : Int) = ((m / n : Nat) : Int) := rfl
theorem tmod_nat {m n : Nat} : (m : Int).tmod (n : Int) = ((m % n : Nat) : Int) := rfl
theorem tdiv32 {m : Nat} : (m : Int).tdiv 32 = ((m / 32 : Nat) : Int) := rfl
theorem tmod32 {m : Nat} : (m : Int).tmod 32 = ((m % 32 : Nat) : Int) := rfl
theorem div_pow2 {a k : Nat} : (a : Int) / 2 ^ k = ((a / 2 ^ k : Nat) : Int) := by rw [Int.natCast_ediv, Int.natCast_pow]; rfl
theorem mul_pow2 {a k : Nat} : (a : Int) * 2 ^ k = ((a * 2 ^ k : Nat) : Int) := by rw [Int.natCast_mul, Int.natCast_pow]; rfl
theorem wrap_u32_nat {n : Nat} : IntKind.u32.wrap (n : Int) = ((n % 4294967296 : Nat) : Int) := by rw [IntKind.wrap_u32]; omega
theorem toNat_addc {a b : Int} (ha : 0 ≤ a) (hb : 0 ≤ b) : (a + b).toNat = a.toNat + b.toNat := by omega
theorem get_set1 {α : Type} {l : List α} {i : Nat} {v : α} (h : i < l.length) : (l.set i v)[i]? = some v := by simp [h]
theorem toNat_sub2 {m : Nat} : ((m : Int) - 2).toNat = m - 2 := by omega
theorem bits_u64 : IntKind.u64.bits = 64 := rfl
theorem bits_u32 : IntKind.u32.bits = 32 := rfl
theorem bits_u8 : IntKind.u8.bits = 8 := rfl
theorem bits_i64 : IntKind.i64.bits = 64 := rfl
theorem le_add {a n : Nat} : (a ≤ a + n) = True := by simp
end

/-- The walk's begin. -/
theorem vc_V {X : Cx} {c : Code} {Q : Post} {s : Sl} {st : St} (h : V X c [] Q () s st) : vc X c Q s st := h

/-- Values' equations. -/
theorem vals : type_of% (And.intro @toNat_sub2 <| And.intro @get_set1 <| And.intro @List.set_set.{0} <| And.intro @toNat_addc <| And.intro @tdiv32 <| And.intro @tmod32 <| And.intro @div_pow2 <| And.intro @mul_pow2 <| And.intro @tdiv_nat <| And.intro @tmod_nat <| And.intro @ok_int <| And.intro @ok_bool <| And.intro @ok_str <| And.intro @ok_nil <| And.intro @ok_im <| And.intro @ok_own <| And.intro @cells_val <| And.intro @cells_im <| And.intro @cells_own <| And.intro @put1_val0 <| And.intro @put1_valS <| And.intro @put1_own <| And.intro @put1_im <| And.intro @cast0 <| And.intro @cast1 <| And.intro @cast_succ <| And.intro @u32s_length <| And.intro @u8s_length <| And.intro @u32s_leaf <| And.intro @u8s_leaf <| And.intro @u32s_get <| And.intro @u8s_get <| And.intro @u32s_take <| And.intro @u8s_take <| And.intro @u32s_drop <| And.intro @u8s_drop <| And.intro @u32s_put <| And.intro @u8s_put <| And.intro @u32s_zero <| And.intro @u8s_zero <| And.intro @u32s_pre <| And.intro @u8s_pre <|
  And.intro @leaf_int <| And.intro @leaf_bool <| And.intro @leaf_str <| And.intro @leaf_nil <| And.intro @leaf_im <| And.intro @leaf_own <| And.intro @ok_agg <| And.intro @ok_leaf <| And.intro @cells_agg <| And.intro @cells_leaf <| And.intro @put1_leaf <| And.intro @put1_agg <| And.intro @part_f <| And.intro @part_t <| And.intro @cutA_own <| And.intro @cutA_im <| And.intro @sl_own_eq <| And.intro @sl_im_eq <| And.intro @sl_nil_eq <| And.intro @slc_own_eq <| And.intro @slc_im_eq <| And.intro @slc_nil_eq <|
  And.intro @slb_nn <| And.intro @slb_ln <| And.intro @slb_nh <| And.intro @slb_lh <| And.intro @good_int <| And.intro @good_bool <| And.intro @good_str <| And.intro @good_slice <| And.intro @good_struct <| And.intro @good_oth <| And.intro @size_int <| And.intro @size_bool <| And.intro @size_str <| And.intro @size_slice <| And.intro @size_struct <| And.intro @size_oth <| And.intro @agg_int <| And.intro @agg_bool <| And.intro @agg_str <| And.intro @agg_slice <| And.intro @agg_struct <| And.intro @agg_oth <|
  And.intro @zero_int <| And.intro @zero_bool <| And.intro @zero_str <| And.intro @zero_slice <| And.intro @zero_struct <| And.intro @zero_oth <| And.intro @not_dec <| And.intro @fill_nil <| And.intro @fill_cons <| And.intro @res_nil <| And.intro @res_tmp <| And.intro @res_cell <| And.intro @ret_one <| And.intro @ret_none <| And.intro @ret_two <| And.intro @body_n <| And.intro @body_r <| And.intro @get_app0 <| And.intro @get_app <| And.intro @set_app0 <| And.intro @set_app <| And.intro @toNat_sub1 <| And.intro @toNat_sub <| And.intro @toNat_add1 <| And.intro @toNat_add <| And.intro @getD_take <| And.intro bits_u64 <| And.intro bits_u32 <| And.intro bits_u8 <| And.intro bits_i64 <| @le_add) := And.intro @toNat_sub2 <| And.intro @get_set1 <| And.intro @List.set_set.{0} <| And.intro @toNat_addc <| And.intro @tdiv32 <| And.intro @tmod32 <| And.intro @div_pow2 <| And.intro @mul_pow2 <| And.intro @tdiv_nat <| And.intro @tmod_nat <| And.intro @ok_int <| And.intro @ok_bool <| And.intro @ok_str <| And.intro @ok_nil <| And.intro @ok_im <| And.intro @ok_own <| And.intro @cells_val <| And.intro @cells_im <| And.intro @cells_own <| And.intro @put1_val0 <| And.intro @put1_valS <| And.intro @put1_own <| And.intro @put1_im <| And.intro @cast0 <| And.intro @cast1 <| And.intro @cast_succ <| And.intro @u32s_length <| And.intro @u8s_length <| And.intro @u32s_leaf <| And.intro @u8s_leaf <| And.intro @u32s_get <| And.intro @u8s_get <| And.intro @u32s_take <| And.intro @u8s_take <| And.intro @u32s_drop <| And.intro @u8s_drop <| And.intro @u32s_put <| And.intro @u8s_put <| And.intro @u32s_zero <| And.intro @u8s_zero <| And.intro @u32s_pre <| And.intro @u8s_pre <|
  And.intro @leaf_int <| And.intro @leaf_bool <| And.intro @leaf_str <| And.intro @leaf_nil <| And.intro @leaf_im <| And.intro @leaf_own <| And.intro @ok_agg <| And.intro @ok_leaf <| And.intro @cells_agg <| And.intro @cells_leaf <| And.intro @put1_leaf <| And.intro @put1_agg <| And.intro @part_f <| And.intro @part_t <| And.intro @cutA_own <| And.intro @cutA_im <| And.intro @sl_own_eq <| And.intro @sl_im_eq <| And.intro @sl_nil_eq <| And.intro @slc_own_eq <| And.intro @slc_im_eq <| And.intro @slc_nil_eq <|
  And.intro @slb_nn <| And.intro @slb_ln <| And.intro @slb_nh <| And.intro @slb_lh <| And.intro @good_int <| And.intro @good_bool <| And.intro @good_str <| And.intro @good_slice <| And.intro @good_struct <| And.intro @good_oth <| And.intro @size_int <| And.intro @size_bool <| And.intro @size_str <| And.intro @size_slice <| And.intro @size_struct <| And.intro @size_oth <| And.intro @agg_int <| And.intro @agg_bool <| And.intro @agg_str <| And.intro @agg_slice <| And.intro @agg_struct <| And.intro @agg_oth <|
  And.intro @zero_int <| And.intro @zero_bool <| And.intro @zero_str <| And.intro @zero_slice <| And.intro @zero_struct <| And.intro @zero_oth <| And.intro @not_dec <| And.intro @fill_nil <| And.intro @fill_cons <| And.intro @res_nil <| And.intro @res_tmp <| And.intro @res_cell <| And.intro @ret_one <| And.intro @ret_none <| And.intro @ret_two <| And.intro @body_n <| And.intro @body_r <| And.intro @get_app0 <| And.intro @get_app <| And.intro @set_app0 <| And.intro @set_app <| And.intro @toNat_sub1 <| And.intro @toNat_sub <| And.intro @toNat_add1 <| And.intro @toNat_add <| And.intro @getD_take <| And.intro bits_u64 <| And.intro bits_u32 <| And.intro bits_u8 <| And.intro bits_i64 <| @le_add

/-- Lengths. -/
theorem lens : type_of% (And.intro @List.length_take.{0} <| And.intro @List.length_drop.{0} <| And.intro @List.length_set.{0} <| And.intro @List.length_replicate.{0} <| And.intro @List.length_append.{0} <| And.intro @List.length_cons.{0} <| And.intro @List.length_nil.{0} <| And.intro @u32s_length <| And.intro @u8s_length <| And.intro @Int.toNat_natCast <| And.intro @toNat_sub2 <| And.intro @toNat_sub1 <| And.intro @toNat_sub <| And.intro @toNat_addc <| And.intro @toNat_add1 @toNat_add) := And.intro @List.length_take.{0} <| And.intro @List.length_drop.{0} <| And.intro @List.length_set.{0} <| And.intro @List.length_replicate.{0} <| And.intro @List.length_append.{0} <| And.intro @List.length_cons.{0} <| And.intro @List.length_nil.{0} <| And.intro @u32s_length <| And.intro @u8s_length <| And.intro @Int.toNat_natCast <| And.intro @toNat_sub2 <| And.intro @toNat_sub1 <| And.intro @toNat_sub <| And.intro @toNat_addc <| And.intro @toNat_add1 @toNat_add

/-- Lists' and numbers' equations. -/
theorem lsts : type_of% (And.intro @cond_true.{1} <| And.intro @cond_false.{1} <| And.intro @IntWalk.i64_in <| And.intro @IntWalk.u64_in <| And.intro @IntWalk.u32_in <| And.intro @IntWalk.u8_in <|
  And.intro @List.length_cons.{0} <| And.intro @List.length_nil.{0} <| And.intro @List.length_append.{0} <| And.intro @List.length_set.{0} <| And.intro @List.length_replicate.{0} <| And.intro @List.append_assoc.{0} <| And.intro @List.cons_append.{0} <| And.intro @List.nil_append.{0} <| And.intro @List.append_nil.{0} <| And.intro @List.map_cons.{0,0} <| And.intro @List.map_nil.{0,0} <|
  And.intro @List.getElem?_cons_zero.{0} <| And.intro @List.getElem?_cons_succ.{0} <| And.intro @List.set_cons_zero.{0} <| And.intro @List.set_cons_succ.{0} <| And.intro @List.drop_zero.{0} <| And.intro @List.drop_nil.{0} <| And.intro @List.drop_succ_cons.{0} <| And.intro @List.take_zero.{0} <| And.intro @List.take_nil.{0} <| And.intro @List.take_succ_cons.{0} <| And.intro @List.take_length.{0} <| And.intro @List.length_take.{0} <| And.intro @List.length_drop.{0} <| And.intro @List.all_cons.{0} <| And.intro @List.all_nil.{0} <|
  And.intro @Nat.mul_one <| And.intro @Nat.zero_mul <| And.intro @Nat.zero_add <| And.intro @Nat.add_zero <| And.intro @Nat.sub_zero <| And.intro @Nat.le_refl <| And.intro @Nat.min_self <| And.intro @Nat.min_eq_left <| And.intro @Int.toNat_natCast <| And.intro @Option.map_some.{0,0} <| @Option.map_none.{0,0}) := And.intro @cond_true.{1} <| And.intro @cond_false.{1} <| And.intro @IntWalk.i64_in <| And.intro @IntWalk.u64_in <| And.intro @IntWalk.u32_in <| And.intro @IntWalk.u8_in <|
  And.intro @List.length_cons.{0} <| And.intro @List.length_nil.{0} <| And.intro @List.length_append.{0} <| And.intro @List.length_set.{0} <| And.intro @List.length_replicate.{0} <| And.intro @List.append_assoc.{0} <| And.intro @List.cons_append.{0} <| And.intro @List.nil_append.{0} <| And.intro @List.append_nil.{0} <| And.intro @List.map_cons.{0,0} <| And.intro @List.map_nil.{0,0} <|
  And.intro @List.getElem?_cons_zero.{0} <| And.intro @List.getElem?_cons_succ.{0} <| And.intro @List.set_cons_zero.{0} <| And.intro @List.set_cons_succ.{0} <| And.intro @List.drop_zero.{0} <| And.intro @List.drop_nil.{0} <| And.intro @List.drop_succ_cons.{0} <| And.intro @List.take_zero.{0} <| And.intro @List.take_nil.{0} <| And.intro @List.take_succ_cons.{0} <| And.intro @List.take_length.{0} <| And.intro @List.length_take.{0} <| And.intro @List.length_drop.{0} <| And.intro @List.all_cons.{0} <| And.intro @List.all_nil.{0} <|
  And.intro @Nat.mul_one <| And.intro @Nat.zero_mul <| And.intro @Nat.zero_add <| And.intro @Nat.add_zero <| And.intro @Nat.sub_zero <| And.intro @Nat.le_refl <| And.intro @Nat.min_self <| And.intro @Nat.min_eq_left <| And.intro @Int.toNat_natCast <| And.intro @Option.map_some.{0,0} <| @Option.map_none.{0,0}
end Go.Proofs.Pv
