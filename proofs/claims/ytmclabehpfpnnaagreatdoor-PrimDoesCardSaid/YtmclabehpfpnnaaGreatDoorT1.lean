/- The types that the functions name, and that the program follows every order. -/
import Derived.Test.YtmclabehpfpnnaaGreatDoorE14
import Derived.Test.YtmclabehpfpnnaaGreatDoorProg
set_option linter.unusedSimpArgs false
set_option linter.unusedVariables false
namespace Go.Proofs.Pv
open Go Go.RowKit Go.Proofs

def zeroD : List Value := [.int .i64 0, .bool false, .slice none 0 0, .bool false, .string ⟨#[]⟩, .slice none 0 0, .slice none 0 0]
theorem ty_int : ti Tryz.prog 3 = .int .i64 [.int .i64 0] := by kernel_rfl
theorem ty_bool : ti Tryz.prog 4 = .bool [.bool false] := by kernel_rfl
theorem ty_u8 : ti Tryz.prog 5 = .int .u8 [.int .u8 0] := by kernel_rfl
theorem ty_str : ti Tryz.prog 9 = .str [.string ⟨#[]⟩] := by kernel_rfl
theorem ty_u32s : ti Tryz.prog 25 = .slice 74 1 4 [.int .u32 0] [.slice none 0 0] := by kernel_rfl
theorem ty_u32 : ti Tryz.prog 74 = .int .u32 [.int .u32 0] := by kernel_rfl
theorem ty_uint : ti Tryz.prog 75 = .int .u64 [.int .u64 0] := by kernel_rfl
theorem ty_u8s : ti Tryz.prog 84 = .slice 5 1 1 [.int .u8 0] [.slice none 0 0] := by kernel_rfl
theorem ty_int2 : ti Tryz.prog 27 = .struct [(0, 1, false), (1, 1, false)] 2 [.bool false, .slice none 0 0] := by kernel_rfl
theorem ty_errno : ti Tryz.prog 30 = .int .i64 [.int .i64 0] := by kernel_rfl
theorem ty_u64 : ti Tryz.prog 73 = .int .u64 [.int .u64 0] := by kernel_rfl
theorem ty_dat : ti Tryz.prog 29 = .struct [(0, 1, false), (1, 2, true), (3, 1, false), (4, 1, false), (5, 1, false), (6, 1, false)] 7 zeroD := by kernel_rfl
theorem ty_dats : ti Tryz.prog 22 = .slice 29 7 112 zeroD [.slice none 0 0] := by kernel_rfl
theorem ty_dat2 : ti Tryz.prog 79 = .arr 2 1 2 false [.slice none 0 0, .slice none 0 0] := by kernel_rfl
theorem ty_str39 : ti Tryz.prog 78 = .arr 39 1 39 false (List.replicate 39 (.string ⟨#[]⟩)) := by kernel_rfl
theorem ty_int39 : ti Tryz.prog 70 = .arr 39 1 39 false (List.replicate 39 (.int .i64 0)) := by kernel_rfl
theorem ty_int3 : ti Tryz.prog 54 = .arr 3 1 3 false (List.replicate 3 (.int .i64 0)) := by kernel_rfl
theorem ty_str38 : ti Tryz.prog 56 = .arr 38 1 38 false (List.replicate 38 (.string ⟨#[]⟩)) := by kernel_rfl
theorem tys : type_of% (And.intro ty_int <| And.intro ty_bool <| And.intro ty_u8 <| And.intro ty_str <| And.intro ty_u32s <| And.intro ty_u32 <| And.intro ty_uint <| And.intro ty_u8s <| And.intro ty_int2 <| And.intro ty_errno <| And.intro ty_u64 <| And.intro ty_dat <| And.intro ty_dats <| And.intro ty_dat2 <| And.intro ty_str39 <| And.intro ty_int39 <| And.intro ty_int3 ty_str38) := And.intro ty_int <| And.intro ty_bool <| And.intro ty_u8 <| And.intro ty_str <| And.intro ty_u32s <| And.intro ty_u32 <| And.intro ty_uint <| And.intro ty_u8s <| And.intro ty_int2 <| And.intro ty_errno <| And.intro ty_u64 <| And.intro ty_dat <| And.intro ty_dats <| And.intro ty_dat2 <| And.intro ty_str39 <| And.intro ty_int39 <| And.intro ty_int3 ty_str38
theorem vlt : type_of% (And.intro vals <| And.intro lsts tys) := And.intro vals <| And.intro lsts tys
theorem mixed : Tryz.prog.follows .mixedOrders = true := by kernel_rfl
end Go.Proofs.Pv
