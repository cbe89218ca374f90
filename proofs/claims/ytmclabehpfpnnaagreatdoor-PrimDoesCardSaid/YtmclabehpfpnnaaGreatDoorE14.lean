/- The engine's thirteenth part: values' equations. -/
import Derived.Test.YtmclabehpfpnnaaGreatDoorE12
set_option linter.unusedSimpArgs false
set_option linter.unusedVariables false
namespace Go.Proofs.Pv
open Go Go.RowKit

/-- Rows of numbers. -/
def u32s (l : List Nat) : List AV := l.map fun (n : Nat) => .val (.int .u32 (n : Int))
def u8s (l : List Nat) : List AV := l.map fun (n : Nat) => .val (.int .u8 (n : Int))

section
variable {l m : List Nat} {rest : List AV} {i : Nat} {x : Int}
theorem u32s_length : (u32s l).length = l.length := by simp [u32s]
theorem u8s_length : (u8s l).length = l.length := by simp [u8s]
theorem u32s_leaf : (u32s l).all leaf = true := by simp [u32s, leaf, Value.oneCell']
theorem u8s_leaf : (u8s l).all leaf = true := by simp [u8s, leaf, Value.oneCell']
theorem u32s_get (h : i < l.length) : (u32s l)[i]? = some (.val (.int .u32 (l.getD i 0 : Nat))) := by simp [u32s, h]
theorem u8s_get (h : i < l.length) : (u8s l)[i]? = some (.val (.int .u8 (l.getD i 0 : Nat))) := by simp [u8s, h]
theorem u32s_take : (u32s l).take i = u32s (l.take i) := by simp [u32s, List.map_take]
theorem u8s_take : (u8s l).take i = u8s (l.take i) := by simp [u8s, List.map_take]
theorem u32s_drop : (u32s l).drop i = u32s (l.drop i) := by simp [u32s, List.map_drop]
theorem u8s_drop : (u8s l).drop i = u8s (l.drop i) := by simp [u8s, List.map_drop]
theorem u32s_app : u32s l ++ u32s m = u32s (l ++ m) := by simp [u32s]
theorem u32s_put (h : 0 ≤ x) : put1 (u32s l) i (.val (.int .u32 x)) = u32s (l.set i x.toNat) := by
  unfold put1 u32s
  rw [List.map_set, Int.toNat_of_nonneg h]
theorem u8s_put (h : 0 ≤ x) : put1 (u8s l) i (.val (.int .u8 x)) = u8s (l.set i x.toNat) := by
  unfold put1 u8s
  rw [List.map_set, Int.toNat_of_nonneg h]
theorem u32s_zero {n : Nat} : zrow n [.int .u32 0] = u32s (List.replicate n 0) := by simp [zrow, u32s]
theorem u8s_zero {n : Nat} : zrow n [.int .u8 0] = u8s (List.replicate n 0) := by simp [zrow, u8s]
theorem u32s_pre : (u32s l ++ rest).take l.length = u32s l := by rw [← u32s_length (l := l)]; exact List.take_left
theorem u8s_pre : (u8s l ++ rest).take l.length = u8s l := by rw [← u8s_length (l := l)]; exact List.take_left
theorem leaf_int {k : IntKind} {n : Int} : leaf (.val (.int k n)) = true := rfl
theorem leaf_bool {b : Bool} : leaf (.val (.bool b)) = true := rfl
theorem leaf_str {b : ByteArray} : leaf (.val (.string b)) = true := rfl
theorem leaf_nil {n c : Nat} : leaf (.val (.slice none n c)) = true := rfl
theorem leaf_im {n : Nat} {cs : List AV} : leaf (.im n cs) = true := rfl
theorem leaf_own {r off n sz : Nat} : leaf (.own r off n sz) = true := rfl
theorem ok_agg {cs : List AV} : okCells (.agg cs) = cs.all leaf := rfl
theorem ok_leaf {x : AV} (h : leaf x = true) : okCells x = true := by
  cases x <;> first | exact h | cases h
theorem ok_int {k : IntKind} {n : Int} : okCells (.val (.int k n)) = true := rfl
theorem ok_bool {b : Bool} : okCells (.val (.bool b)) = true := rfl
theorem ok_str {b : ByteArray} : okCells (.val (.string b)) = true := rfl
theorem ok_nil {n c : Nat} : okCells (.val (.slice none n c)) = true := rfl
theorem ok_im {n : Nat} {cs : List AV} : okCells (.im n cs) = true := rfl
theorem ok_own {r off n sz : Nat} : okCells (.own r off n sz) = true := rfl
theorem cells_val {v : Value} : cellsA (.val v) = [.val v] := rfl
theorem cells_im {n : Nat} {cs : List AV} : cellsA (.im n cs) = [.im n cs] := rfl
theorem cells_own {r off n sz : Nat} : cellsA (.own r off n sz) = [.own r off n sz] := rfl
theorem put1_val0 {c : AV} {cs : List AV} {v : Value} : put1 (c :: cs) 0 (.val v) = .val v :: cs := rfl
theorem put1_valS {c : AV} {cs : List AV} {n : Nat} {v : Value} : put1 (c :: cs) (n + 1) (.val v) = c :: put1 cs n (.val v) := rfl
theorem put1_own {cs : List AV} {i r off n sz : Nat} : put1 cs i (.own r off n sz) = cs.set i (.own r off n sz) := rfl
theorem put1_im {cs ds : List AV} {i n : Nat} : put1 cs i (.im n ds) = cs.set i (.im n ds) := rfl
theorem cast0 : ((0 : Nat) : Int) = 0 := rfl
theorem cast1 : ((1 : Nat) : Int) = 1 := rfl
theorem cast_succ {n : Nat} : ((n + 1 : Nat) : Int) = (n : Int) + 1 := rfl
theorem cells_agg {cs : List AV} : cellsA (.agg cs) = cs := rfl
theorem cells_leaf {x : AV} (h : leaf x = true) : cellsA x = [x] := by
  cases x <;> first | rfl | cases h
theorem put1_leaf {x : AV} {cs : List AV} {off : Nat} (h : leaf x = true) : put1 cs off x = cs.set off x := by
  cases x <;> first | rfl | cases h
theorem put1_agg {ys cs : List AV} {off : Nat} : put1 cs off (.agg ys) = cs.take off ++ ys ++ cs.drop (off + ys.length) := rfl
theorem part_f {cs : List AV} {off sz : Nat} {K : AV → Prop} : partA cs off sz false K = match cs[off]? with | some x => K x | none => False := rfl
theorem part_t {cs : List AV} {off sz : Nat} {K : AV → Prop} : partA cs off sz true K = (off + sz ≤ cs.length ∧ K (.agg ((cs.drop off).take sz))) := rfl
theorem cutA_own {r off n s l m sz : Nat} : cutA (.own r off n s) l m sz = .own r (off + l * sz) m s := rfl
theorem cutA_im {n l m sz : Nat} {cs : List AV} : cutA (.im n cs) l m sz = .im m ((cs.drop (l * sz)).take (m * sz)) := rfl
theorem sl_own_eq {sz r off n s : Nat} {st : St} : sl sz st (.own r off n s) = if s = sz then match st[r]? with
    | some (some cs) => if ((cs.drop off).take (n * sz)).length = n * sz then some (n, (cs.drop off).take (n * sz)) else none
    | _ => none
    else none := rfl
theorem sl_im_eq {sz n : Nat} {st : St} {cs : List AV} : sl sz st (.im n cs) = if cs.length = n * sz then some (n, cs) else none := rfl
theorem sl_nil_eq {sz : Nat} {st : St} : sl sz st (.val (.slice none 0 0)) = some (0, []) := rfl
theorem slc_own_eq {r off n s : Nat} {st : St} : slc st (.own r off n s) = match st[r]? with
    | some (some cs) => some (n, (cs.drop off).take (n * s))
    | _ => none := rfl
theorem slc_im_eq {n : Nat} {st : St} {cs : List AV} : slc st (.im n cs) = some (n, cs) := rfl
theorem slc_nil_eq {st : St} : slc st (.val (.slice none 0 0)) = some (0, []) := rfl
theorem slb_nn {n : Nat} {F : Nat → Nat → Prop} : sliceB none none n F = F 0 n := rfl
theorem slb_ln {n : Nat} {k : IntKind} {l : Int} {F : Nat → Nat → Prop} : sliceB (some (.val (.int k l))) none n F = (0 ≤ l ∧ l ≤ n ∧ F l.toNat n) := rfl
theorem slb_nh {n : Nat} {k : IntKind} {h : Int} {F : Nat → Nat → Prop} : sliceB none (some (.val (.int k h))) n F = (0 ≤ h ∧ h ≤ n ∧ F 0 h.toNat) := rfl
theorem slb_lh {n : Nat} {k k2 : IntKind} {l h : Int} {F : Nat → Nat → Prop} : sliceB (some (.val (.int k l))) (some (.val (.int k2 h))) n F = (0 ≤ l ∧ l ≤ h ∧ h ≤ n ∧ F l.toNat h.toNat) := rfl
theorem good_int {k : IntKind} {z : List Value} : (TI.int k z).good = true := rfl
theorem good_bool {z : List Value} : (TI.bool z).good = true := rfl
theorem good_str {z : List Value} : (TI.str z).good = true := rfl
theorem good_slice {e sz b : Nat} {ez z : List Value} : (TI.slice e sz b ez z).good = true := rfl
theorem good_struct {fs : List (Nat × Nat × Bool)} {sz : Nat} {z : List Value} : (TI.struct fs sz z).good = true := rfl
theorem good_oth {z : List Value} : (TI.oth z).good = true := rfl
theorem size_int {k : IntKind} {z : List Value} : (TI.int k z).size = 1 := rfl
theorem size_bool {z : List Value} : (TI.bool z).size = 1 := rfl
theorem size_str {z : List Value} : (TI.str z).size = 1 := rfl
theorem size_slice {e sz b : Nat} {ez z : List Value} : (TI.slice e sz b ez z).size = 1 := rfl
theorem size_struct {fs : List (Nat × Nat × Bool)} {sz : Nat} {z : List Value} : (TI.struct fs sz z).size = sz := rfl
theorem size_oth {z : List Value} : (TI.oth z).size = 1 := rfl
theorem agg_int {k : IntKind} {z : List Value} : (TI.int k z).isAgg = false := rfl
theorem agg_bool {z : List Value} : (TI.bool z).isAgg = false := rfl
theorem agg_str {z : List Value} : (TI.str z).isAgg = false := rfl
theorem agg_slice {e sz b : Nat} {ez z : List Value} : (TI.slice e sz b ez z).isAgg = false := rfl
theorem agg_struct {fs : List (Nat × Nat × Bool)} {sz : Nat} {z : List Value} : (TI.struct fs sz z).isAgg = true := rfl
theorem agg_oth {z : List Value} : (TI.oth z).isAgg = false := rfl
theorem zero_int {k : IntKind} {z : List Value} : (TI.int k z).zero = z := rfl
theorem zero_bool {z : List Value} : (TI.bool z).zero = z := rfl
theorem zero_str {z : List Value} : (TI.str z).zero = z := rfl
theorem zero_slice {e sz b : Nat} {ez z : List Value} : (TI.slice e sz b ez z).zero = z := rfl
theorem zero_struct {fs : List (Nat × Nat × Bool)} {sz : Nat} {z : List Value} : (TI.struct fs sz z).zero = z := rfl
theorem zero_oth {z : List Value} : (TI.oth z).zero = z := rfl
theorem not_dec {p : Prop} [Decidable p] : (!decide p) = decide (¬p) := by by_cases h : p <;> simp [h]
theorem fill_nil {place : Nat → Option (Nat × Nat)} {cells : List AV} : fillA place cells [] = some cells := rfl
theorem fill_cons {place : Nat → Option (Nat × Nat)} {cells : List AV} {i : Nat} {x : AV} {rest : List (Nat × AV)} : fillA place cells ((i, x) :: rest) = match place i with
    | none => none
    | some (off, size) => if okCells x = true ∧ (cellsA x).length = size ∧ off + size ≤ cells.length then fillA place (cells.take off ++ cellsA x ++ cells.drop (off + size)) rest else none := rfl
theorem res_nil {X : Cx} {st : St} {s : Sl} {K : List AV → Prop} : resA X st s [] K = K [] := rfl
theorem res_tmp {X : Cx} {st : St} {s : Sl} {t : Nat} {rs : List ResultVar} {K : List AV → Prop} : resA X st s (.tmp t :: rs) K = resA X st s rs fun xs => K (Sl.get s t :: xs) := rfl
theorem res_cell {X : Cx} {st : St} {s : Sl} {c t : Nat} {rs : List ResultVar} {K : List AV → Prop} : resA X st s (.cell c t :: rs) K = match Sl.get s c with
    | .ptr r off => match st[r]? with
      | some (some cs) => (ti X.P t).good = true ∧ partA cs off (ti X.P t).size (ti X.P t).isAgg fun y => resA X st s rs fun xs => K (y :: xs)
      | _ => False
    | _ => False := rfl
theorem ret_one {x : AV} : retA [x] = x := rfl
theorem ret_none : retA [] = .tup [] := rfl
theorem ret_two {x y : AV} {l : List AV} : retA (x :: y :: l) = .tup (x :: y :: l) := rfl
theorem body_n {X : Cx} {rs : List ResultVar} {K : AV → St → Prop} {s : Sl} {st : St} : bodyK X rs K .normal s st = resA X st s rs fun xs => K (retA xs) st := rfl
theorem body_r {X : Cx} {rs : List ResultVar} {K : AV → St → Prop} {s : Sl} {st : St} : bodyK X rs K .ret s st = resA X st s rs fun xs => K (retA xs) st := rfl
theorem get_app0 {α : Type} {a b : List α} : (a ++ b)[a.length]? = b[0]? := by rw [List.getElem?_append_right (Nat.le_refl _), Nat.sub_self]
theorem get_app {α : Type} {a b : List α} {n : Nat} : (a ++ b)[a.length + n]? = b[n]? := by rw [List.getElem?_append_right (Nat.le_add_right _ _), Nat.add_sub_cancel_left]
theorem set_app0 {α : Type} {a b : List α} {v : α} : (a ++ b).set a.length v = a ++ b.set 0 v := by rw [List.set_append_right _ _ (Nat.le_refl _), Nat.sub_self]
theorem set_app {α : Type} {a b : List α} {n : Nat} {v : α} : (a ++ b).set (a.length + n) v = a ++ b.set n v := by rw [List.set_append_right _ _ (Nat.le_add_right _ _), Nat.add_sub_cancel_left]
theorem toNat_sub1 {m : Nat} : ((m : Int) - 1).toNat = m - 1 := by omega
theorem toNat_sub {m n : Nat} : ((m : Int) - (n : Int)).toNat = m - n := by omega
theorem toNat_add1 {m : Nat} : ((m : Int) + 1).toNat = m + 1 := by omega
theorem toNat_add {m n : Nat} : ((m : Int) + (n : Int)).toNat = m + n := by omega
theorem getD_take {i m : Nat} {l : List Nat} (h : i < m) : (l.take m).getD i 0 = l.getD i 0 := by
  rw [List.getD_eq_getElem?_getD, List.getElem?_take_of_lt h, List.getD_eq_getElem?_getD]
theorem tdiv_nat {m n : Nat} : (m : Int).tdiv (n : Int) = ((m / n : Nat) : Int) := rfl
theorem tmod_nat {m n : Nat} : (m : Int).tmod (n : Int) = ((m % n : Nat) : Int) := rfl
theorem tdiv32 {m : Nat} : (m : Int).tdiv 32 = ((m / 32 : Nat) : Int) := rfl
theorem tmod32 {m : Nat} : (m : Int).tmod 32 = ((m % 32 : Nat) : Int) := rfl
theorem div_pow2 {a k : Nat} : (a : Int) / 2 ^ k = ((a / 2 ^ k : Nat) : Int) := by rw [Int.natCast_ediv, Int.natCast_pow]; rfl
theorem mul_pow2 {a k : Nat} : (a : Int) * 2 ^ k = ((a * 2 ^ k : Nat) : Int) := by rw [Int.natCast_mul, Int.natCast_pow]; rfl
theorem wrap_u32_nat {n : Nat} : IntKind.u32.wrap (n : Int) = ((n % 4294967296 : Nat) : Int) := by rw [IntKind.wrap_u32]; omega
theorem toNat_addc {a b : Int} (ha : 0 ≤ a) (hb : 0 ≤ b) : (a + b).toNat = a.toNat + b.toNat := by omega
theorem get_set1 {α : Type} {l : List α} {i : Nat} {v : α} (h : i < l.length) : (l.set i v)[i]? = some v := by simp [h]
theorem toNat_sub2 {m : Nat} : ((m : Int) - 2).toNat = m - 2 := by omega
theorem bits_u64 : IntKind.u64.bits = 64 := rfl
theorem bits_u32 : IntKind.u32.bits = 32 := rfl
theorem bits_u8 : IntKind.u8.bits = 8 := rfl
theorem bits_i64 : IntKind.i64.bits = 64 := rfl
theorem le_add {a n : Nat} : (a ≤ a + n) = True := by simp
end

/-- The walk's begin. -/
theorem vc_V {X : Cx} {c : Code} {Q : Post} {s : Sl} {st : St} (h : V X c [] Q () s st) : vc X c Q s st := h

/-- Values' equations. -/
theorem vals : type_of% (And.intro @toNat_sub2 <| And.intro @get_set1 <| And.intro @List.set_set.{0} <| And.intro @toNat_addc <| And.intro @tdiv32 <| And.intro @tmod32 <| And.intro @div_pow2 <| And.intro @mul_pow2 <| And.intro @tdiv_nat <| And.intro @tmod_nat <| And.intro @ok_int <| And.intro @ok_bool <| And.intro @ok_str <| And.intro @ok_nil <| And.intro @ok_im <| And.intro @ok_own <| And.intro @cells_val <| And.intro @cells_im <| And.intro @cells_own <| And.intro @put1_val0 <| And.intro @put1_valS <| And.intro @put1_own <| And.intro @put1_im <| And.intro @cast0 <| And.intro @cast1 <| And.intro @cast_succ <| And.intro @u32s_length <| And.intro @u8s_length <| And.intro @u32s_leaf <| And.intro @u8s_leaf <| And.intro @u32s_get <| And.intro @u8s_get <| And.intro @u32s_take <| And.intro @u8s_take <| And.intro @u32s_drop <| And.intro @u8s_drop <| And.intro @u32s_put <| And.intro @u8s_put <| And.intro @u32s_zero <| And.intro @u8s_zero <| And.intro @u32s_pre <| And.intro @u8s_pre <|
  And.intro @leaf_int <| And.intro @leaf_bool <| And.intro @leaf_str <| And.intro @leaf_nil <| And.intro @leaf_im <| And.intro @leaf_own <| And.intro @ok_agg <| And.intro @ok_leaf <| And.intro @cells_agg <| And.intro @cells_leaf <| And.intro @put1_leaf <| And.intro @put1_agg <| And.intro @part_f <| And.intro @part_t <| And.intro @cutA_own <| And.intro @cutA_im <| And.intro @sl_own_eq <| And.intro @sl_im_eq <| And.intro @sl_nil_eq <| And.intro @slc_own_eq <| And.intro @slc_im_eq <| And.intro @slc_nil_eq <|
  And.intro @slb_nn <| And.intro @slb_ln <| And.intro @slb_nh <| And.intro @slb_lh <| And.intro @good_int <| And.intro @good_bool <| And.intro @good_str <| And.intro @good_slice <| And.intro @good_struct <| And.intro @good_oth <| And.intro @size_int <| And.intro @size_bool <| And.intro @size_str <| And.intro @size_slice <| And.intro @size_struct <| And.intro @size_oth <| And.intro @agg_int <| And.intro @agg_bool <| And.intro @agg_str <| And.intro @agg_slice <| And.intro @agg_struct <| And.intro @agg_oth <|
  And.intro @zero_int <| And.intro @zero_bool <| And.intro @zero_str <| And.intro @zero_slice <| And.intro @zero_struct <| And.intro @zero_oth <| And.intro @not_dec <| And.intro @fill_nil <| And.intro @fill_cons <| And.intro @res_nil <| And.intro @res_tmp <| And.intro @res_cell <| And.intro @ret_one <| And.intro @ret_none <| And.intro @ret_two <| And.intro @body_n <| And.intro @body_r <| And.intro @get_app0 <| And.intro @get_app <| And.intro @set_app0 <| And.intro @set_app <| And.intro @toNat_sub1 <| And.intro @toNat_sub <| And.intro @toNat_add1 <| And.intro @toNat_add <| And.intro @getD_take <| And.intro bits_u64 <| And.intro bits_u32 <| And.intro bits_u8 <| And.intro bits_i64 <| @le_add) := And.intro @toNat_sub2 <| And.intro @get_set1 <| And.intro @List.set_set.{0} <| And.intro @toNat_addc <| And.intro @tdiv32 <| And.intro @tmod32 <| And.intro @div_pow2 <| And.intro @mul_pow2 <| And.intro @tdiv_nat <| And.intro @tmod_nat <| And.intro @ok_int <| And.intro @ok_bool <| And.intro @ok_str <| And.intro @ok_nil <| And.intro @ok_im <| And.intro @ok_own <| And.intro @cells_val <| And.intro @cells_im <| And.intro @cells_own <| And.intro @put1_val0 <| And.intro @put1_valS <| And.intro @put1_own <| And.intro @put1_im <| And.intro @cast0 <| And.intro @cast1 <| And.intro @cast_succ <| And.intro @u32s_length <| And.intro @u8s_length <| And.intro @u32s_leaf <| And.intro @u8s_leaf <| And.intro @u32s_get <| And.intro @u8s_get <| And.intro @u32s_take <| And.intro @u8s_take <| And.intro @u32s_drop <| And.intro @u8s_drop <| And.intro @u32s_put <| And.intro @u8s_put <| And.intro @u32s_zero <| And.intro @u8s_zero <| And.intro @u32s_pre <| And.intro @u8s_pre <|
  And.intro @leaf_int <| And.intro @leaf_bool <| And.intro @leaf_str <| And.intro @leaf_nil <| And.intro @leaf_im <| And.intro @leaf_own <| And.intro @ok_agg <| And.intro @ok_leaf <| And.intro @cells_agg <| And.intro @cells_leaf <| And.intro @put1_leaf <| And.intro @put1_agg <| And.intro @part_f <| And.intro @part_t <| And.intro @cutA_own <| And.intro @cutA_im <| And.intro @sl_own_eq <| And.intro @sl_im_eq <| And.intro @sl_nil_eq <| And.intro @slc_own_eq <| And.intro @slc_im_eq <| And.intro @slc_nil_eq <|
  And.intro @slb_nn <| And.intro @slb_ln <| And.intro @slb_nh <| And.intro @slb_lh <| And.intro @good_int <| And.intro @good_bool <| And.intro @good_str <| And.intro @good_slice <| And.intro @good_struct <| And.intro @good_oth <| And.intro @size_int <| And.intro @size_bool <| And.intro @size_str <| And.intro @size_slice <| And.intro @size_struct <| And.intro @size_oth <| And.intro @agg_int <| And.intro @agg_bool <| And.intro @agg_str <| And.intro @agg_slice <| And.intro @agg_struct <| And.intro @agg_oth <|
  And.intro @zero_int <| And.intro @zero_bool <| And.intro @zero_str <| And.intro @zero_slice <| And.intro @zero_struct <| And.intro @zero_oth <| And.intro @not_dec <| And.intro @fill_nil <| And.intro @fill_cons <| And.intro @res_nil <| And.intro @res_tmp <| And.intro @res_cell <| And.intro @ret_one <| And.intro @ret_none <| And.intro @ret_two <| And.intro @body_n <| And.intro @body_r <| And.intro @get_app0 <| And.intro @get_app <| And.intro @set_app0 <| And.intro @set_app <| And.intro @toNat_sub1 <| And.intro @toNat_sub <| And.intro @toNat_add1 <| And.intro @toNat_add <| And.intro @getD_take <| And.intro bits_u64 <| And.intro bits_u32 <| And.intro bits_u8 <| And.intro bits_i64 <| @le_add

/-- Lengths. -/
theorem lens : type_of% (And.intro @List.length_take.{0} <| And.intro @List.length_drop.{0} <| And.intro @List.length_set.{0} <| And.intro @List.length_replicate.{0} <| And.intro @List.length_append.{0} <| And.intro @List.length_cons.{0} <| And.intro @List.length_nil.{0} <| And.intro @u32s_length <| And.intro @u8s_length <| And.intro @Int.toNat_natCast <| And.intro @toNat_sub2 <| And.intro @toNat_sub1 <| And.intro @toNat_sub <| And.intro @toNat_addc <| And.intro @toNat_add1 @toNat_add) := And.intro @List.length_take.{0} <| And.intro @List.length_drop.{0} <| And.intro @List.length_set.{0} <| And.intro @List.length_replicate.{0} <| And.intro @List.length_append.{0} <| And.intro @List.length_cons.{0} <| And.intro @List.length_nil.{0} <| And.intro @u32s_length <| And.intro @u8s_length <| And.intro @Int.toNat_natCast <| And.intro @toNat_sub2 <| And.intro @toNat_sub1 <| And.intro @toNat_sub <| And.intro @toNat_addc <| And.intro @toNat_add1 @toNat_add

/-- Lists' and numbers' equations. -/
theorem lsts : type_of% (And.intro @cond_true.{1} <| And.intro @cond_false.{1} <| And.intro @IntWalk.i64_in <| And.intro @IntWalk.u64_in <| And.intro @IntWalk.u32_in <| And.intro @IntWalk.u8_in <|
  And.intro @List.length_cons.{0} <| And.intro @List.length_nil.{0} <| And.intro @List.length_append.{0} <| And.intro @List.length_set.{0} <| And.intro @List.length_replicate.{0} <| And.intro @List.append_assoc.{0} <| And.intro @List.cons_append.{0} <| And.intro @List.nil_append.{0} <| And.intro @List.append_nil.{0} <| And.intro @List.map_cons.{0,0} <| And.intro @List.map_nil.{0,0} <|
  And.intro @List.getElem?_cons_zero.{0} <| And.intro @List.getElem?_cons_succ.{0} <| And.intro @List.set_cons_zero.{0} <| And.intro @List.set_cons_succ.{0} <| And.intro @List.drop_zero.{0} <| And.intro @List.drop_nil.{0} <| And.intro @List.drop_succ_cons.{0} <| And.intro @List.take_zero.{0} <| And.intro @List.take_nil.{0} <| And.intro @List.take_succ_cons.{0} <| And.intro @List.take_length.{0} <| And.intro @List.length_take.{0} <| And.intro @List.length_drop.{0} <| And.intro @List.all_cons.{0} <| And.intro @List.all_nil.{0} <|
  And.intro @Nat.mul_one <| And.intro @Nat.zero_mul <| And.intro @Nat.zero_add <| And.intro @Nat.add_zero <| And.intro @Nat.sub_zero <| And.intro @Nat.le_refl <| And.intro @Nat.min_self <| And.intro @Nat.min_eq_left <| And.intro @Int.toNat_natCast <| And.intro @Option.map_some.{0,0} <| @Option.map_none.{0,0}) := And.intro @cond_true.{1} <| And.intro @cond_false.{1} <| And.intro @IntWalk.i64_in <| And.intro @IntWalk.u64_in <| And.intro @IntWalk.u32_in <| And.intro @IntWalk.u8_in <|
  And.intro @List.length_cons.{0} <| And.intro @List.length_nil.{0} <| And.intro @List.length_append.{0} <| And.intro @List.length_set.{0} <| And.intro @List.length_replicate.{0} <| And.intro @List.append_assoc.{0} <| And.intro @List.cons_append.{0} <| And.intro @List.nil_append.{0} <| And.intro @List.append_nil.{0} <| And.intro @List.map_cons.{0,0} <| And.intro @List.map_nil.{0,0} <|
  And.intro @List.getElem?_cons_zero.{0} <| And.intro @List.getElem?_cons_succ.{0} <| And.intro @List.set_cons_zero.{0} <| And.intro @List.set_cons_succ.{0} <| And.intro @List.drop_zero.{0} <| And.intro @List.drop_nil.{0} <| And.intro @List.drop_succ_cons.{0} <| And.intro @List.take_zero.{0} <| And.intro @List.take_nil.{0} <| And.intro @List.take_succ_cons.{0} <| And.intro @List.take_length.{0} <| And.intro @List.length_take.{0} <| And.intro @List.length_drop.{0} <| And.intro @List.all_cons.{0} <| And.intro @List.all_nil.{0} <|
  And.intro @Nat.mul_one <| And.intro @Nat.zero_mul <| And.intro @Nat.zero_add <| And.intro @Nat.add_zero <| And.intro @Nat.sub_zero <| And.intro @Nat.le_refl <| And.intro @Nat.min_self <| And.intro @Nat.min_eq_left <| And.intro @Int.toNat_natCast <| And.intro @Option.map_some.{0,0} <| @Option.map_none.{0,0}
/-- Truths. -/
theorem bls : type_of% (And.intro @true_and <| And.intro @and_true <| And.intro @and_self <| And.intro @true_implies <| And.intro @decide_true <| And.intro @decide_false <| And.intro @Bool.not_true <| And.intro @Bool.not_false <| And.intro @Bool.and_true <| And.intro @Bool.and_false <| And.intro @Bool.true_and <| And.intro @Bool.false_and <| And.intro @Bool.and_self <| @decide_eq_true_eq) := And.intro @true_and <| And.intro @and_true <| And.intro @and_self <| And.intro @true_implies <| And.intro @decide_true <| And.intro @decide_false <| And.intro @Bool.not_true <| And.intro @Bool.not_false <| And.intro @Bool.and_true <| And.intro @Bool.and_false <| And.intro @Bool.true_and <| And.intro @Bool.false_and <| And.intro @Bool.and_self <| @decide_eq_true_eq
end Go.Proofs.Pv

/- The engine's fourteenth part: what is left over of a call is swept away; drawn regions by a list; numbers in rows. -/
namespace Go.Proofs.Pv
open Go Go.RowKit

def plain (cs : List AV) : Prop := ∀ c ∈ cs, ∃ v, c = .val v

mutual
/-- A value with the new objects numbered anew: number L[i] becomes i. -/
inductive Mv (st : St) (L : List Nat) : AV → AV → Prop
  | val (v : Value) : Mv st L (.val v) (.val v)
  | old {sz n : Nat} {x : AV} {cs : List AV} (h : sl sz st x = some (n, cs)) (hp : plain cs) : Mv st L x x
  | new {i r off n sz : Nat} (h : L[i]? = some r) : Mv st L (.own (st.length + r) off n sz) (.own (st.length + i) off n sz)
  | agg {xs ys : List AV} (h : Mvs st L xs ys) : Mv st L (.agg xs) (.agg ys)
  | tup {xs ys : List AV} (h : Mvs st L xs ys) : Mv st L (.tup xs) (.tup ys)
inductive Mvs (st : St) (L : List Nat) : List AV → List AV → Prop
  | nil : Mvs st L [] []
  | cons {x y : AV} {xs ys : List AV} (h : Mv st L x y) (hs : Mvs st L xs ys) : Mvs st L (x :: xs) (y :: ys)
end

section
variable {w0 : World} {β ex : Bk} {st : St} {L : List Nat}

def sweep (L : List Nat) (ex : Bk) : Bk := L.map fun r => (ex[r]?).getD none

theorem sweep_get (hL : ∀ r ∈ L, r < ex.length) {i r : Nat} (h : L[i]? = some r) : (sweep L ex)[i]? = ex[r]? := by
  have hr := hL r (List.mem_of_getElem? h)
  simp [sweep, h, hr]

mutual
theorem Mv.rel (hlen : β.length = st.length) (hL : ∀ r ∈ L, r < ex.length) {x y : AV} : Mv st L x y → ∀ v, VRel w0 (β ++ ex) v x → VRel w0 (β ++ sweep L ex) v y
  | .val v, u, h => by cases h; exact .val v
  | .old (n := n) (cs := cs) h hp, v, hv => by
    rcases sl_cases h with ⟨rfl, hl⟩ | ⟨r, off, c, rfl, hc, hd, hl⟩ | ⟨rfl, rfl, rfl⟩
    · cases hv with
      | im u hn hc hr hv =>
        refine .im u hn hc hr fun j x hx => ?_
        obtain ⟨z, rfl⟩ := hp x (List.mem_of_getElem? hx)
        rw [inv_val (hv j _ hx)]; exact .val z
    · have hr : r < β.length := by rw [hlen]; exact (List.getElem?_eq_some_iff.1 hc).1
      have e : ∀ z : Bk, (β ++ z)[r]? = β[r]? := fun z => List.getElem?_append_left hr
      cases hv with
      | own hb hn hc ho => rw [e] at hb; exact .own (by rw [e]; exact hb) hn hc ho
      | nil hb => rw [e] at hb; exact .nil (by rw [e]; exact hb)
    · cases hv; exact .val _
  | .new (i := i) (r := r) h, v, hv => by
    have e1 : (β ++ ex)[st.length + r]? = ex[r]? := by rw [← hlen, List.getElem?_append_right (by omega), Nat.add_sub_cancel_left]
    have e2 : (β ++ sweep L ex)[st.length + i]? = ex[r]? := by rw [← hlen, List.getElem?_append_right (by omega), Nat.add_sub_cancel_left, sweep_get hL h]
    cases hv with
    | own hb hn hc ho => rw [e1] at hb; exact .own (by rw [e2]; exact hb) hn hc ho
    | nil hb => rw [e1] at hb; exact .nil (by rw [e2]; exact hb)
  | .agg h, v, hv => by
    cases hv with
    | agg hs hv =>
      obtain ⟨h1, h2⟩ := Mvs.rel hlen hL h
      refine .agg (hs.trans h1) fun j u y hu hy => ?_
      have hj : j < _ := (List.getElem?_eq_some_iff.1 hy).1
      rw [← h1] at hj
      exact h2 j _ y (List.getElem?_eq_getElem hj) hy u (hv j u _ hu (List.getElem?_eq_getElem hj))
  | .tup h, v, hv => by
    cases hv with
    | tup hs hv =>
      obtain ⟨h1, h2⟩ := Mvs.rel hlen hL h
      refine .tup (hs.trans h1) fun j u y hu hy => ?_
      have hj : j < _ := (List.getElem?_eq_some_iff.1 hy).1
      rw [← h1] at hj
      exact h2 j _ y (List.getElem?_eq_getElem hj) hy u (hv j u _ hu (List.getElem?_eq_getElem hj))
theorem Mvs.rel (hlen : β.length = st.length) (hL : ∀ r ∈ L, r < ex.length) {xs ys : List AV} : Mvs st L xs ys → xs.length = ys.length ∧ ∀ (j : Nat) x y, xs[j]? = some x → ys[j]? = some y → ∀ v, VRel w0 (β ++ ex) v x → VRel w0 (β ++ sweep L ex) v y
  | .nil => ⟨rfl, fun j x y hx => by cases hx⟩
  | .cons h hs => by
    obtain ⟨h1, h2⟩ := Mvs.rel hlen hL hs
    refine ⟨by simp [h1], fun j x y hx hy v hv => ?_⟩
    cases j with
    | zero => cases hx; cases hy; exact Mv.rel hlen hL h v hv
    | succ j => exact h2 j x y hx hy v hv
end

/-- Of the new objects only L's are kept. -/
theorem Inv.sweep {P : Program} {w w' : World} {y : St} (hI : Inv ⟨P, w0, w, st, β⟩ β st w) (h : Inv ⟨P, w0, w, st, β⟩ (β ++ ex) (st ++ y) w') (hn : L.Nodup) (zs : List (List AV)) (hz : L.map (fun r => y[r]?) = zs.map fun z => some (some z)) (hp : ∀ z ∈ zs, plain z) :
    (∀ r ∈ L, r < ex.length) ∧ Inv ⟨P, w0, w, st, β⟩ (β ++ Pv.sweep L ex) (st ++ zs.map some) w' := by
  have hlen := hI.len
  have hl2 : ex.length = y.length := by have := h.len; simp only [List.length_append] at this; omega
  have hzl : L.length = zs.length := by have := congrArg List.length hz; simpa using this
  have hzi : ∀ (i : Nat) r, L[i]? = some r → ∃ z, zs[i]? = some z ∧ y[r]? = some (some z) ∧ plain z := by
    intro i r hr
    have := congrArg (fun l => l[i]?) hz
    simp only [List.getElem?_map, hr, Option.map_some] at this
    cases hzz : zs[i]? with
    | none => simp [hzz] at this
    | some z => simp only [hzz, Option.map_some, Option.some.injEq] at this; exact ⟨z, rfl, this, hp z (List.mem_of_getElem? hzz)⟩
  have hL : ∀ r ∈ L, r < ex.length := by
    intro r hr
    obtain ⟨i, hi⟩ := List.mem_iff_getElem?.1 hr
    obtain ⟨z, _, h2, _⟩ := hzi i r hi
    rw [hl2]; exact (List.getElem?_eq_some_iff.1 h2).1
  have hI' := hI.grow_below h.b1
  have hsw : (Pv.sweep L ex).length = L.length := by simp [Pv.sweep]
  -- where a number comes from
  have src : ∀ r bk, (β ++ Pv.sweep L ex)[r]? = some bk → (r < st.length ∧ β[r]? = some bk) ∨ (∃ i q, r = st.length + i ∧ L[i]? = some q ∧ (β ++ ex)[st.length + q]? = some bk) := by
    intro r bk hr
    by_cases hlt : r < β.length
    · rw [List.getElem?_append_left hlt] at hr; exact .inl ⟨by omega, hr⟩
    · rw [List.getElem?_append_right (by omega)] at hr
      have hi : r - β.length < L.length := by rw [← hsw]; exact (List.getElem?_eq_some_iff.1 hr).1
      refine .inr ⟨r - β.length, L[r - β.length], by omega, List.getElem?_eq_getElem hi, ?_⟩
      rw [sweep_get hL (List.getElem?_eq_getElem hi)] at hr
      rw [← hlen, List.getElem?_append_right (by omega), Nat.add_sub_cancel_left]; exact hr
  have osrc : ∀ r cs, (st ++ zs.map some)[r]? = some (some cs) → (r < st.length ∧ st[r]? = some (some cs)) ∨ (∃ i q, r = st.length + i ∧ L[i]? = some q ∧ (st ++ y)[st.length + q]? = some (some cs) ∧ plain cs) := by
    intro r cs hr
    by_cases hlt : r < st.length
    · rw [List.getElem?_append_left hlt] at hr; exact .inl ⟨hlt, hr⟩
    · rw [List.getElem?_append_right (by omega), List.getElem?_map] at hr
      cases hzz : zs[r - st.length]? with
      | none => simp [hzz] at hr
      | some z =>
        simp only [hzz, Option.map_some, Option.some.injEq] at hr
        subst hr
        have hi : r - st.length < L.length := by rw [hzl]; exact (List.getElem?_eq_some_iff.1 hzz).1
        obtain ⟨z', q1, q2, q3⟩ := hzi _ _ (List.getElem?_eq_getElem hi)
        rw [hzz] at q1; cases q1
        refine .inr ⟨r - st.length, L[r - st.length], by omega, List.getElem?_eq_getElem hi, ?_, q3⟩
        rw [List.getElem?_append_right (by omega), Nat.add_sub_cancel_left]; exact q2
  refine ⟨hL, h.b0, h.b1, by simp [hsw, hlen, hzl], ⟨_, rfl⟩, ⟨_, rfl⟩, ?_, ?_, ?_, ?_⟩
  · intro r b m hr hb
    rcases src r _ hb with ⟨h1, _⟩ | ⟨i, q, _, _, h3⟩
    · simp only at hr; omega
    · exact h.nw _ b m (by simp) h3
  · intro r b m hb
    rcases src r _ hb with ⟨_, h1⟩ | ⟨i, q, _, _, h3⟩
    · exact hI'.ow r b m h1
    · exact h.ow _ b m h3
  · intro r cs hr
    rcases osrc r cs hr with ⟨h1, h2⟩ | ⟨i, q, rfl, h2, h3, h4⟩
    · obtain ⟨bk, q1, q2⟩ := hI'.obj r cs h2
      refine ⟨bk, by rw [List.getElem?_append_left (by omega)]; exact q1, ?_⟩
      cases bk with
      | none => exact q2
      | some p => obtain ⟨c, e, g1, g2, g3, g4⟩ := q2; exact ⟨c, e, g1, g2, g3, fun j x hx => let ⟨u, g5, g6⟩ := g4 j x hx; ⟨u, g5, g6.ext _⟩⟩
    · obtain ⟨bk, q1, q2⟩ := h.obj _ cs h3
      refine ⟨bk, ?_, ?_⟩
      · rw [← hlen, List.getElem?_append_right (by omega), Nat.add_sub_cancel_left, sweep_get hL h2]
        rw [← hlen, List.getElem?_append_right (by omega), Nat.add_sub_cancel_left] at q1; exact q1
      · cases bk with
        | none => exact q2
        | some p =>
          obtain ⟨c, e, g1, g2, g3, g4⟩ := q2
          refine ⟨c, e, g1, g2, g3, fun j x hx => ?_⟩
          obtain ⟨u, g5, g6⟩ := g4 j x hx
          obtain ⟨v, rfl⟩ := h4 x (List.mem_of_getElem? hx)
          exact ⟨u, g5, by rw [inv_val g6]; exact .val v⟩
  · intro r r' cs cs' b m m' h1 h2 h3 h4
    rcases osrc r cs h1 with ⟨a1, a2⟩ | ⟨i, q, rfl, a2, a3, _⟩ <;> rcases osrc r' cs' h2 with ⟨b1, b2⟩ | ⟨i', q', rfl, b2, b3, _⟩
    · rw [List.getElem?_append_left (by omega)] at h3 h4
      exact hI'.inj r r' cs cs' b m m' a2 b2 h3 h4
    · rw [List.getElem?_append_left (by omega)] at h3
      rw [← hlen, List.getElem?_append_right (by omega), Nat.add_sub_cancel_left, sweep_get hL b2] at h4
      have := h.inj r (st.length + q') cs cs' b m m' (by rw [List.getElem?_append_left a1]; exact a2) b3 (by rw [List.getElem?_append_left (by omega)]; exact h3) (by rw [← hlen, List.getElem?_append_right (by omega), Nat.add_sub_cancel_left]; exact h4)
      omega
    · rw [List.getElem?_append_left (by omega)] at h4
      rw [← hlen, List.getElem?_append_right (by omega), Nat.add_sub_cancel_left, sweep_get hL a2] at h3
      have := h.inj (st.length + q) r' cs cs' b m m' a3 (by rw [List.getElem?_append_left b1]; exact b2) (by rw [← hlen, List.getElem?_append_right (by omega), Nat.add_sub_cancel_left]; exact h3) (by rw [List.getElem?_append_left (by omega)]; exact h4)
      omega
    · rw [← hlen, List.getElem?_append_right (by omega), Nat.add_sub_cancel_left, sweep_get hL a2] at h3
      rw [← hlen, List.getElem?_append_right (by omega), Nat.add_sub_cancel_left, sweep_get hL b2] at h4
      have := h.inj (st.length + q) (st.length + q') cs cs' b m m' a3 b3 (by rw [← hlen, List.getElem?_append_right (by omega), Nat.add_sub_cancel_left]; exact h3) (by rw [← hlen, List.getElem?_append_right (by omega), Nat.add_sub_cancel_left]; exact h4)
      have hq : q = q' := by omega
      subst hq
      have hi1 := List.getElem?_eq_some_iff.1 a2
      have hi2 := List.getElem?_eq_some_iff.1 b2
      obtain ⟨l1, e1⟩ := hi1
      obtain ⟨l2, e2⟩ := hi2
      have hp := List.pairwise_iff_getElem.1 hn
      rcases Nat.lt_trichotomy i i' with hl | hl | hl
      · exact absurd (e1.trans e2.symm) (hp i i' l1 l2 hl)
      · rw [hl]
      · exact absurd (e2.trans e1.symm) (hp i' i l2 l1 hl)

/-- A contract whose new objects are swept. -/
theorem tidy {P : Program} {f : FuncId} {R0 R : List AV → St → (AV → St → Prop) → Prop} (h : PSpec P f R0)
    (hR : ∀ xs st K, R xs st K → R0 xs st fun x st' => ∃ (L : List Nat) (y : St) (zs : List (List AV)) (x' : AV), st' = st ++ y ∧ L.Nodup ∧ L.map (fun r => y[r]?) = zs.map (fun z => some (some z)) ∧ (∀ z ∈ zs, plain z) ∧ Mv st L x x' ∧ K x' (st ++ zs.map some)) : PSpec P f R := by
  refine ⟨h.1, fun w0 β st w vs xs K hI hv hr => (h.2 w0 β st w vs xs _ hI hv (hR _ _ _ hr)).mono ?_⟩
  rintro e w' ⟨v, x, ex, st', he, h1, h2, L, y, zs, x', rfl, hn, hz, hp, hm, hK⟩
  obtain ⟨hL, h3⟩ := hI.sweep h1 hn zs hz hp
  exact ⟨v, x', _, _, he, h3, hm.rel hI.len hL v h2, hK⟩
end

/-! ### Drawn regions by a list -/

inductive Pk (full : List Oper) : List Nat → List Oper → Prop
  | nil : Pk full [] []
  | cons {i : Nat} {o : Oper} {l : List Nat} {l' : List Oper} : full[i]? = some o → Pk full l l' → Pk full (i :: l) (o :: l')

theorem Pk.eq {full : List Oper} {l : List Nat} {l' : List Oper} (h : Pk full l l') : (l.filterMap fun i => full.toArray[i]?) = l' := by
  induction h with
  | nil => rfl
  | cons h _ ih => simp [h, ← ih]

def okR (ops : Array Oper) (l : List Nat) : Bool := soundM ops (ancs ops) && Region.noSelect ops && okS ops (ancs ops) l (start ops)

theorem V_draw {X : Cx} {k : List Fr} {Q : Post} {s : Sl} {st : St} {id : Nat} {l l' : List Oper} {u} (is : List Nat) (h : okR l.toArray is = true) (hp : Pk l is l') (hO : O true X l l' k Q () s st) : V X (.region id (List.toArray l) true) k Q u s st := by
  simp only [okR, Bool.and_eq_true] at h
  refine ⟨_, h.1.1, h.1.2, .inl ⟨is, h.2, ?_⟩⟩
  rw [hp.eq]
  exact hO

def okL (ops : Array Oper) (A l1 l2 : List Nat) : Bool := soundM ops (ancs ops) && Region.noSelect ops && decide (l1.length + A.length + l2.length ≤ ops.size) && okP ops (ancs ops) A l2 l1 (start ops)
theorem mask_nil {ops : Array Oper} {s : Sl} : maskS ops [] s = s := rfl
/-- A drawn region in which variables are made that may come up at any time: as if they were made behind the first ones. -/
theorem V_late {X : Cx} {k : List Fr} {Q : Post} {s s' : Sl} {st : St} {id : Nat} {l l' : List Oper} {u} {P : Program} (A l1 l2 : List Nat) (hP : X.P = P) (hA : okA P l.toArray A = true) (h : okL l.toArray A l1 l2 = true) (hp : Pk l (l1 ++ (A ++ l2)) l') (hs : maskS l.toArray A s = s') (hO : O true X l l' k Q () s' st) : V X (.region id (List.toArray l) true) k Q u s st := by
  subst hP; subst hs
  simp only [okL, Bool.and_eq_true, decide_eq_true_eq] at h
  refine ⟨_, h.1.1.1, h.1.1.2, .inr (.inr (.inl ⟨A, l1, l2, h.1.2, hA, h.2, ?_⟩))⟩
  rw [hp.eq]
  exact hO

/-- A drawn region by a tree of orders. -/
def runT (X : Cx) (l : List Oper) (k : List Fr) (Q : Post) (t : Tr) (s : Sl) (st : St) : Prop := runD X l.toArray (unw X k Q .normal) t s st
theorem runT_fin {X : Cx} {l : List Oper} {k : List Fr} {Q : Post} {s : Sl} {st : St} : runT X l k Q .fin s st = R X k Q () s st .normal := rfl
theorem runT_take {X : Cx} {l : List Oper} {k : List Fr} {Q : Post} {s : Sl} {st : St} {i : Nat} {t : Tr} : runT X l k Q (.take i t) s st = match l[i]? with
    | some o => O true X l [o] (.lp (runT X l k Q t) :: k) Q () s st
    | none => False := by
  unfold runT
  rw [show runD X l.toArray (unw X k Q .normal) (.take i t) s st = match l.toArray[i]? with
    | some o => vc1 true X l.toArray.toList o s st (runD X l.toArray (unw X k Q .normal) t)
    | none => False from rfl, List.getElem?_toArray]
  cases l[i]? <;> rfl
theorem runT_two {X : Cx} {l : List Oper} {k : List Fr} {Q : Post} {s : Sl} {st : St} {i j : Nat} {t u : Tr} : runT X l k Q (.two i t j u) s st = (runT X l k Q (.take i t) s st ∧ runT X l k Q (.take j u) s st) := rfl
theorem V_tree {X : Cx} {k : List Fr} {Q : Post} {s : Sl} {st : St} {id : Nat} {l : List Oper} {u} (t : Tr) (h : (soundM l.toArray (ancs l.toArray) && Region.noSelect l.toArray && decide (t.deep ≤ l.toArray.size) && okT l.toArray (ancs l.toArray) t (start l.toArray)) = true) (hO : runT X l k Q t s st) : V X (.region id (List.toArray l) true) k Q u s st := by
  simp only [Bool.and_eq_true, decide_eq_true_eq] at h
  exact ⟨_, h.1.1.1, h.1.1.2, .inr (.inr (.inr (.inl ⟨t, h.1.2, h.2, hO⟩)))⟩

/-- A drawn region by a tree of all orders. -/
def runM (X : Cx) (l : List Oper) (k : List Fr) (Q : Post) (b : Bool) (t : Tn) (s : Sl) (st : St) : Prop := runN X l.toArray (unw X k Q .normal) b t s st
theorem V_orders {X : Cx} {k : List Fr} {Q : Post} {s : Sl} {st : St} {id : Nat} {l : List Oper} {u} (t : Tn) (h : (soundM l.toArray (ancs l.toArray) && Region.noSelect l.toArray && decide (t.deep ≤ l.toArray.size) && okN l.toArray (ancs l.toArray) false t (start l.toArray)) = true) (hO : runM X l k Q false t s st) : V X (.region id (List.toArray l) true) k Q u s st := by
  simp only [Bool.and_eq_true, decide_eq_true_eq] at h
  exact ⟨_, h.1.1.1, h.1.1.2, .inr (.inr (.inr (.inr ⟨t, h.1.2, h.2, hO⟩)))⟩
theorem runM_fin1 {X : Cx} {l : List Oper} {k : List Fr} {Q : Post} {s : Sl} {st : St} : runM X l k Q true .fin s st = True := rfl
theorem runM_take {X : Cx} {l : List Oper} {k : List Fr} {Q : Post} {s : Sl} {st : St} {i : Nat} {t : Tn} : runM X l k Q false (.take i t) s st = match l[i]? with
    | some o => O true X l [o] (.lp (runM X l k Q false t) :: k) Q () s st
    | none => False := by
  unfold runM
  rw [show runN X l.toArray (unw X k Q .normal) false (.take i t) s st = match l.toArray[i]? with
    | some o => vc1 true X l.toArray.toList o s st (runN X l.toArray (unw X k Q .normal) false t)
    | none => False from rfl, List.getElem?_toArray]
  cases l[i]? <;> rfl
theorem runM_alt {X : Cx} {l : List Oper} {k : List Fr} {Q : Post} {s : Sl} {st : St} {b : Bool} {i : Nat} {t u : Tn} : runM X l k Q b (.alt i t u) s st = ((match l[i]? with
    | some o => O true X l [o] (.lp (runM X l k Q false t) :: k) Q () s st
    | none => False) ∧ runM X l k Q true u s st) := by
  unfold runM
  rw [show runN X l.toArray (unw X k Q .normal) b (.alt i t u) s st = ((match l.toArray[i]? with
    | some o => vc1 true X l.toArray.toList o s st (runN X l.toArray (unw X k Q .normal) false t)
    | none => False) ∧ runN X l.toArray (unw X k Q .normal) true u s st) from by cases b <;> rfl, List.getElem?_toArray]
  cases l[i]? <;> rfl

/-- A call of a function with a contract that may write. -/
theorem E_callW {X : Cx} {k : List Fr} {Q : Post} {s : Sl} {st : St} {full rest : List Oper} {dst : Option Nat} {u} {g : FuncId} {fs xs cs : List AV} {R : List AV → St → (AV → St → Prop) → Prop} (h : FSpec X g R) (hR : R (fs ++ xs ++ cs) st fun v st' => O false X full rest k Q () (putS dst v s) st') : E false X dst full rest k Q u s st (.call (.fn (.func g) fs cs) xs) :=
  ⟨R, h, hR⟩

/-! ### Numbers in rows -/

/-- A slice of numbers below 2 ^ 32. -/
structure Nm (st : St) (x : AV) (l : List Nat) : Prop where
  sl : sl 1 st x = some (l.length, u32s l)
  lt : ∀ n ∈ l, n < 4294967296

section
variable {st : St} {x : AV} {l : List Nat} {rest : List AV} {r : Nat}
theorem Nm.grow (h : Nm st x l) : ∀ y, Pv.sl 1 (st ++ y) x = some (l.length, u32s l) := fun y => sl_grow h.sl y
theorem Nm.leaf (h : Nm st x l) : leaf x = true := sl_leaf h.sl
theorem Nm.slc (h : Nm st x l) : slc st x = some (l.length, u32s l) := (sl_slc h.sl).1
theorem Nm.slcg (h : Nm st x l) : ∀ y, Pv.slc (st ++ y) x = some (l.length, u32s l) := fun y => (sl_slc (sl_grow h.sl y)).1
theorem Nm.app (h : Nm st x l) (y : St) : Nm (st ++ y) x l := ⟨h.grow y, h.lt⟩
theorem u32s_plain : plain (u32s l) := by
  intro c hc
  obtain ⟨n, _, rfl⟩ := List.mem_map.1 hc
  exact ⟨_, rfl⟩
theorem Nm.own (h : st[r]? = some (some (u32s l ++ rest))) (hl : ∀ n ∈ l, n < 4294967296) : Nm st (.own r 0 l.length 1) l :=
  ⟨by rw [sl_own_eq]; simp [h, u32s_pre, u32s_length], hl⟩
theorem Nm.nil : Nm st (.val (.slice none 0 0)) [] := ⟨rfl, by simp⟩
theorem Nm.im (hl : ∀ n ∈ l, n < 4294967296) : Nm st (.im l.length (u32s l)) l := ⟨by rw [sl_im_eq]; simp [u32s_length], hl⟩
theorem cutA_all {sz n : Nat} {cs : List AV} (h : Pv.sl sz st x = some (n, cs)) : cutA x 0 n sz = x := by
  rcases sl_cases h with ⟨rfl, hl⟩ | ⟨r, off, c, rfl, hc, hd, hl⟩ | ⟨rfl, rfl, rfl⟩
  · simp [cutA, ← hl]
  · simp [cutA]
  · rfl
theorem cutA_cutA {sz k m : Nat} (h : k ≤ m) : cutA (cutA x 0 m sz) 0 k sz = cutA x 0 k sz := by
  cases x with
  | im n cs => simp only [cutA, Nat.zero_mul, List.drop_zero, List.take_take]; rw [Nat.min_eq_left (Nat.mul_le_mul_right _ h)]
  | own r off n s => simp [cutA]
  | _ => rfl
theorem Nm.slcut (h : Nm st x l) {m : Nat} (hm : m ≤ l.length) : Pv.sl 1 st (cutA x 0 m 1) = some (m, u32s (l.take m)) := by
  rw [Pv.sl_cut h.sl (by omega)]; simp [u32s_take]
theorem Nm.cut0 (h : Nm st x l) {m : Nat} (hm : m ≤ l.length) : Nm st (cutA x 0 m 1) (l.take m) :=
  ⟨by rw [h.slcut hm]; simp [Nat.min_eq_left hm], fun n hn => h.lt n (List.mem_of_mem_take hn)⟩
theorem Nm.cut (h : Nm st x l) {a m : Nat} (hm : a + m ≤ l.length) : Nm st (cutA x a m 1) ((l.drop a).take m) := by
  refine ⟨?_, fun n hn => h.lt n (List.mem_of_mem_drop (List.mem_of_mem_take hn))⟩
  rw [Pv.sl_cut h.sl hm]
  simp [u32s_drop, u32s_take, Nat.min_eq_left (by omega : m ≤ l.length - a)]
end
end Go.Proofs.Pv
