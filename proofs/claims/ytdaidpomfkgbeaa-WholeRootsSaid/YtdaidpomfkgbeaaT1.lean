/- The types that the functions name, and that the program follows every order. -/
import Derived.Test.YtdaidpomfkgbeaaE14
import Derived.Test.YtdaidpomfkgbeaaProg
set_option linter.unusedSimpArgs false
set_option linter.unusedVariables false
namespace Go.Proofs.Pv
open Go Go.RowKit Go.Proofs

theorem ty_int : ti Try.prog 3 = .int .i64 [.int .i64 0] := by kernel_rfl
theorem ty_bool : ti Try.prog 4 = .bool [.bool false] := by kernel_rfl
theorem ty_u8 : ti Try.prog 5 = .int .u8 [.int .u8 0] := by kernel_rfl
theorem ty_str : ti Try.prog 9 = .str [.string ⟨#[]⟩] := by kernel_rfl
theorem ty_u32s : ti Try.prog 22 = .slice 23 1 4 [.int .u32 0] [.slice none 0 0] := by kernel_rfl
theorem ty_u32 : ti Try.prog 23 = .int .u32 [.int .u32 0] := by kernel_rfl
theorem ty_uint : ti Try.prog 36 = .int .u64 [.int .u64 0] := by kernel_rfl
theorem ty_u8s : ti Try.prog 37 = .slice 5 1 1 [.int .u8 0] [.slice none 0 0] := by kernel_rfl
theorem ty_u32ss : ti Try.prog 49 = .slice 22 1 24 [.slice none 0 0] [.slice none 0 0] := by kernel_rfl
theorem ty_int2 : ti Try.prog 52 = .struct [(0, 1, false), (1, 1, false)] 2 [.bool false, .slice none 0 0] := by kernel_rfl
theorem ty_errno : ti Try.prog 54 = .int .i64 [.int .i64 0] := by kernel_rfl
theorem ty_u64 : ti Try.prog 79 = .int .u64 [.int .u64 0] := by kernel_rfl
theorem ty_int2s : ti Try.prog 87 = .slice 52 2 32 [.bool false, .slice none 0 0] [.slice none 0 0] := by kernel_rfl
theorem mixed : Try.prog.follows .mixedOrders = true := by kernel_rfl

theorem tys : type_of% (And.intro ty_int <| And.intro ty_bool <| And.intro ty_u8 <| And.intro ty_str <| And.intro ty_u32s <| And.intro ty_u32 <| And.intro ty_uint <| And.intro ty_u8s <| And.intro ty_u32ss <| And.intro ty_int2 <| And.intro ty_errno <| And.intro ty_u64 ty_int2s) := And.intro ty_int <| And.intro ty_bool <| And.intro ty_u8 <| And.intro ty_str <| And.intro ty_u32s <| And.intro ty_u32 <| And.intro ty_uint <| And.intro ty_u8s <| And.intro ty_u32ss <| And.intro ty_int2 <| And.intro ty_errno <| And.intro ty_u64 ty_int2s
end Go.Proofs.Pv
