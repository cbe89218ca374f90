/- The types that the functions name, and that the program follows every order. -/
import Derived.Test.YtmclabehpfpnnaaDoorE14
import Derived.Test.YtmclabehpfpnnaaDoorProg
set_option linter.unusedSimpArgs false
set_option linter.unusedVariables false
namespace Go.Proofs.Pv
open Go Go.RowKit Go.Proofs

def zeroD : List Value := [.int .i64 0, .bool false, .slice none 0 0, .bool false, .string ⟨#[]⟩, .slice none 0 0, .slice none 0 0]
theorem bz_D : bz zeroD = false := rfl
theorem ty_int : ti Tryd.prog 3 = .int .i64 [.int .i64 0] := by kernel_rfl
theorem ty_bool : ti Tryd.prog 4 = .bool [.bool false] := by kernel_rfl
theorem ty_u8 : ti Tryd.prog 5 = .int .u8 [.int .u8 0] := by kernel_rfl
theorem ty_str : ti Tryd.prog 9 = .str [.string ⟨#[]⟩] := by kernel_rfl
theorem ty_u32s : ti Tryd.prog 22 = .slice 100 1 4 [.int .u32 0] [.slice none 0 0] := by kernel_rfl
theorem ty_u32 : ti Tryd.prog 100 = .int .u32 [.int .u32 0] := by kernel_rfl
theorem ty_uint : ti Tryd.prog 82 = .int .u64 [.int .u64 0] := by kernel_rfl
theorem ty_u8s : ti Tryd.prog 65 = .slice 5 1 1 [.int .u8 0] [.slice none 0 0] := by kernel_rfl
theorem ty_int2 : ti Tryd.prog 24 = .struct [(0, 1, false), (1, 1, false)] 2 [.bool false, .slice none 0 0] := by kernel_rfl
theorem ty_errno : ti Tryd.prog 39 = .int .i64 [.int .i64 0] := by kernel_rfl
theorem ty_u64 : ti Tryd.prog 103 = .int .u64 [.int .u64 0] := by kernel_rfl
theorem ty_dat : ti Tryd.prog 27 = .struct [(0, 1, false), (1, 2, true), (3, 1, false), (4, 1, false), (5, 1, false), (6, 1, false)] 7 zeroD := by kernel_rfl
theorem ty_dats : ti Tryd.prog 25 = .slice 27 7 112 zeroD [.slice none 0 0] := by kernel_rfl
theorem ty_dat2 : ti Tryd.prog 52 = .arr 2 1 2 false [.slice none 0 0, .slice none 0 0] := by kernel_rfl
theorem ty_str39 : ti Tryd.prog 106 = .arr 39 1 39 false (List.replicate 39 (.string ⟨#[]⟩)) := by kernel_rfl
theorem ty_int39 : ti Tryd.prog 107 = .arr 39 1 39 false (List.replicate 39 (.int .i64 0)) := by kernel_rfl
theorem ty_u818 : ti Tryd.prog 70 = .arr 18 1 18 false (List.replicate 18 (.int .u8 0)) := by kernel_rfl
theorem tys : type_of% (And.intro ty_int <| And.intro ty_bool <| And.intro ty_u8 <| And.intro ty_str <| And.intro ty_u32s <| And.intro ty_u32 <| And.intro ty_uint <| And.intro ty_u8s <| And.intro ty_int2 <| And.intro ty_errno <| And.intro ty_u64 <| And.intro ty_dat <| And.intro ty_dats <| And.intro ty_dat2 <| And.intro ty_str39 <| And.intro ty_int39 ty_u818) := And.intro ty_int <| And.intro ty_bool <| And.intro ty_u8 <| And.intro ty_str <| And.intro ty_u32s <| And.intro ty_u32 <| And.intro ty_uint <| And.intro ty_u8s <| And.intro ty_int2 <| And.intro ty_errno <| And.intro ty_u64 <| And.intro ty_dat <| And.intro ty_dats <| And.intro ty_dat2 <| And.intro ty_str39 <| And.intro ty_int39 ty_u818
theorem vlt : type_of% (And.intro vals <| And.intro lsts <| And.intro bz_D <| tys) := And.intro vals <| And.intro lsts <| And.intro bz_D <| tys
theorem mixed : Tryd.prog.follows .mixedOrders = true := by kernel_rfl
end Go.Proofs.Pv
