/-
  NARROWER THAN 'FOR EVERY INPUT', by the rows' own cells (each row's printed sentence says how): WriteData: loops, laid · WriteNames: laid · WriteApart: laid · WriteClean: laid · WriteNests: loops, laid · WriteShows: loops, laid · PrimGood: loops, laid.
  DERIVED. THE GIVEN ROWS OF THIS SEAT. 7 by the template 'for every input the law returns true; each argument reads behind the call as it read before'; 0 by the template 'total and deterministic' (their statements: YtmclabehpfpnnaaDoorTotals.lean).
  GIVEN WITH THE SEED: the statements are not yours to turn. If you find one false, say at which input.
  Laid BY PROGRAM, IN A SANDBOX (cutbox-rows.mjs): the forced cells as the released guide's own fill.sh prints them over the translation 919c56c389b31002… (all of the seat's roots in one cut). By AI agents, Wed Nov 11 2026. No macro, syntax, notation, axiom, sorry.
-/
import Derived.Test.YtmclabehpfpnnaaDoorChecked
import GoSem.Claim
import GoSem.ClaimJoined
import GoSem.ClaimMapViews
import Derived.JoinedTies
import Derived.KernelRfl
namespace Go.Proofs.YtmclabehpfpnnaaDoor
/- THE CELL 'sum', in the pinned program and in every row, IS THE sha256 OF THE DUMP (.gsa) THAT YtmclabehpfpnnaaDoorProg.lean LOADS. Nothing in Lean hashes anything: it is a label: what it is worth is what the hold of that sum in a sandbox is worth. -/
noncomputable def Tryd.pinned : Pinned := { name := "ytmclabehpfpnnaadoor", sum := "919c56c389b31002838ae70cd7b1f90872b9f29484e0dba560e02922d8688eee", checked := Tryd.checked }
namespace Rows
def none {H : Type} : Left H := { results := [], args := [] }

/- WHAT THE LISTED PACKAGE-LEVEL VARIABLES READ AS WHEN THE CALL BEGINS. Each datum BY PROGRAM (the guide's laid-datum.mjs) off the statement by which the dump's own 'gosem.cut.vars' lays the variable. In a bare row this is a premise. The card (YtmclabehpfpnnaaDoorCards.lean) ties it to the program's text. -/
def laid_pavane_write_signs {H : Type} : DataW H := .agg [.lit (.int .u8 33), .lit (.int .u8 36), .lit (.int .u8 37), .lit (.int .u8 38), .lit (.int .u8 42), .lit (.int .u8 47), .lit (.int .u8 58), .lit (.int .u8 60), .lit (.int .u8 61), .lit (.int .u8 62), .lit (.int .u8 63), .lit (.int .u8 94), .lit (.int .u8 95), .lit (.int .u8 126), .lit (.int .u8 43), .lit (.int .u8 45), .lit (.int .u8 46), .lit (.int .u8 64)]
def laid_pavane_expand_names {H : Type} : DataW H := .agg [.lit (.string []), .lit (.string [43]), .lit (.string [45]), .lit (.string [42]), .lit (.string [113, 117, 111, 116, 105, 101, 110, 116]), .lit (.string [114, 101, 109, 97, 105, 110, 100, 101, 114]), .lit (.string [109, 111, 100, 117, 108, 111]), .lit (.string [61]), .lit (.string [60]), .lit (.string [99, 111, 110, 115]), .lit (.string [99, 97, 114]), .lit (.string [99, 100, 114]), .lit (.string [115, 101, 116, 45, 99, 97, 114, 33]), .lit (.string [115, 101, 116, 45, 99, 100, 114, 33]), .lit (.string [110, 117, 108, 108, 63]), .lit (.string [112, 97, 105, 114, 63]), .lit (.string [105, 110, 116, 101, 103, 101, 114, 63]), .lit (.string [115, 121, 109, 98, 111, 108, 63]), .lit (.string [115, 116, 114, 105, 110, 103, 63]), .lit (.string [98, 111, 111, 108, 101, 97, 110, 63]), .lit (.string [112, 114, 111, 99, 101, 100, 117, 114, 101, 63]), .lit (.string [101, 113, 63]), .lit (.string [110, 111, 116]), .lit (.string [115, 116, 114, 105, 110, 103, 45, 108, 101, 110, 103, 116, 104]), .lit (.string [115, 116, 114, 105, 110, 103, 45, 97, 112, 112, 101, 110, 100]), .lit (.string [115, 116, 114, 105, 110, 103, 61, 63]), .lit (.string [115, 121, 109, 98, 111, 108, 45, 62, 115, 116, 114, 105, 110, 103]), .lit (.string [110, 117, 109, 98, 101, 114, 45, 62, 115, 116, 114, 105, 110, 103]), .lit (.string [119, 114, 105, 116, 101]), .lit (.string [100, 105, 115, 112, 108, 97, 121]), .lit (.string [110, 101, 119, 108, 105, 110, 101]), .lit (.string [114, 101, 97, 100, 45, 98, 121, 116, 101]), .lit (.string [114, 97, 105, 115, 101]), .lit (.string [99, 97, 108, 108, 47, 99, 99]), .lit (.string [97, 112, 112, 108, 121]), .lit (.string [98, 111, 120]), .lit (.string [117, 110, 98, 111, 120]), .lit (.string [115, 101, 116, 45, 98, 111, 120, 33]), .lit (.string [118, 111, 105, 100])]
def laid_pavane_expand_arities {H : Type} : DataW H := .agg [.lit (.int .i64 0), .lit (.int .i64 2), .lit (.int .i64 2), .lit (.int .i64 2), .lit (.int .i64 2), .lit (.int .i64 2), .lit (.int .i64 2), .lit (.int .i64 2), .lit (.int .i64 2), .lit (.int .i64 2), .lit (.int .i64 1), .lit (.int .i64 1), .lit (.int .i64 2), .lit (.int .i64 2), .lit (.int .i64 1), .lit (.int .i64 1), .lit (.int .i64 1), .lit (.int .i64 1), .lit (.int .i64 1), .lit (.int .i64 1), .lit (.int .i64 1), .lit (.int .i64 2), .lit (.int .i64 1), .lit (.int .i64 1), .lit (.int .i64 2), .lit (.int .i64 2), .lit (.int .i64 1), .lit (.int .i64 1), .lit (.int .i64 1), .lit (.int .i64 1), .lit (.int .i64 0), .lit (.int .i64 0), .lit (.int .i64 1), .lit (.int .i64 1), .lit (.int .i64 2), .lit (.int .i64 1), .lit (.int .i64 1), .lit (.int .i64 2), .lit (.int .i64 0)]

/-- 'pavanelaw04.WriteData': WHATEVER THE INPUT: true; the input reads as it did. -/
def writeDataSpec : ChangeSpec := { name := "writeData", fn := fun _ => fun
  | [d] => { results := [.lit (.bool true)], args := [d] }
  | _ => none }
def writeDataRow : OpenClaim := { program := "ytmclabehpfpnnaadoor", sum := "919c56c389b31002838ae70cd7b1f90872b9f29484e0dba560e02922d8688eee", func := "pavane/pavanelaw04.WriteData", spec := "writeData", inPlace := ["internal/abi.NoEscape", "internal/bytealg.IndexByteString"], unfollowed := true, recurses := true, named := ["math/bits.overflowError", "pavane/write.signs"], loops := true, apart := false, laid := [("pavane/write.signs", laid_pavane_write_signs)] }
def WriteDataSaid : Prop := writeDataRow.holds Tryd.pinned (OpenSpec.ofChange writeDataSpec)

/-- ITS FALSE NEIGHBOUR: 'it returns false'. Refute it at one input. -/
def writeDataWrong : ChangeSpec := { name := "writeData", fn := fun _ => fun
  | [d] => { results := [.lit (.bool false)], args := [d] }
  | _ => none }
def WriteDataWrongFalsely : Prop := writeDataRow.holds Tryd.pinned (OpenSpec.ofChange writeDataWrong)

/-- 'pavanelaw04.WriteNames': WHATEVER THE INPUT: true; the input reads as it did. -/
def writeNamesSpec : ChangeSpec := { name := "writeNames", fn := fun _ => fun
  | [d] => { results := [.lit (.bool true)], args := [d] }
  | _ => none }
def writeNamesRow : OpenClaim := { program := "ytmclabehpfpnnaadoor", sum := "919c56c389b31002838ae70cd7b1f90872b9f29484e0dba560e02922d8688eee", func := "pavane/pavanelaw04.WriteNames", spec := "writeNames", inPlace := ["internal/abi.NoEscape", "internal/bytealg.IndexByteString"], unfollowed := true, recurses := true, named := ["math/bits.overflowError", "pavane/write.signs"], apart := false, laid := [("pavane/write.signs", laid_pavane_write_signs)] }
def WriteNamesSaid : Prop := writeNamesRow.holds Tryd.pinned (OpenSpec.ofChange writeNamesSpec)

/-- ITS FALSE NEIGHBOUR: 'it returns false'. Refute it at one input. -/
def writeNamesWrong : ChangeSpec := { name := "writeNames", fn := fun _ => fun
  | [d] => { results := [.lit (.bool false)], args := [d] }
  | _ => none }
def WriteNamesWrongFalsely : Prop := writeNamesRow.holds Tryd.pinned (OpenSpec.ofChange writeNamesWrong)

/-- 'pavanelaw04.WriteApart': WHATEVER THE INPUT: true; the input reads as it did. -/
def writeApartSpec : ChangeSpec := { name := "writeApart", fn := fun _ => fun
  | [d1, d2] => { results := [.lit (.bool true)], args := [d1, d2] }
  | _ => none }
def writeApartRow : OpenClaim := { program := "ytmclabehpfpnnaadoor", sum := "919c56c389b31002838ae70cd7b1f90872b9f29484e0dba560e02922d8688eee", func := "pavane/pavanelaw04.WriteApart", spec := "writeApart", inPlace := ["internal/abi.NoEscape", "internal/bytealg.IndexByteString"], unfollowed := true, recurses := true, named := ["math/bits.overflowError", "pavane/write.signs"], apart := false, laid := [("pavane/write.signs", laid_pavane_write_signs)] }
def WriteApartSaid : Prop := writeApartRow.holds Tryd.pinned (OpenSpec.ofChange writeApartSpec)

/-- ITS FALSE NEIGHBOUR: 'it returns false'. Refute it at one input. -/
def writeApartWrong : ChangeSpec := { name := "writeApart", fn := fun _ => fun
  | [d1, d2] => { results := [.lit (.bool false)], args := [d1, d2] }
  | _ => none }
def WriteApartWrongFalsely : Prop := writeApartRow.holds Tryd.pinned (OpenSpec.ofChange writeApartWrong)

/-- 'pavanelaw04.WriteClean': WHATEVER THE INPUT: true; the input reads as it did. -/
def writeCleanSpec : ChangeSpec := { name := "writeClean", fn := fun _ => fun
  | [d] => { results := [.lit (.bool true)], args := [d] }
  | _ => none }
def writeCleanRow : OpenClaim := { program := "ytmclabehpfpnnaadoor", sum := "919c56c389b31002838ae70cd7b1f90872b9f29484e0dba560e02922d8688eee", func := "pavane/pavanelaw04.WriteClean", spec := "writeClean", inPlace := ["internal/abi.NoEscape", "internal/bytealg.IndexByteString"], unfollowed := true, recurses := true, named := ["math/bits.overflowError", "pavane/write.signs"], apart := false, laid := [("pavane/write.signs", laid_pavane_write_signs)] }
def WriteCleanSaid : Prop := writeCleanRow.holds Tryd.pinned (OpenSpec.ofChange writeCleanSpec)

/-- ITS FALSE NEIGHBOUR: 'it returns false'. Refute it at one input. -/
def writeCleanWrong : ChangeSpec := { name := "writeClean", fn := fun _ => fun
  | [d] => { results := [.lit (.bool false)], args := [d] }
  | _ => none }
def WriteCleanWrongFalsely : Prop := writeCleanRow.holds Tryd.pinned (OpenSpec.ofChange writeCleanWrong)

/-- 'pavanelaw04.WriteNests': WHATEVER THE INPUT: true; the input reads as it did. -/
def writeNestsSpec : ChangeSpec := { name := "writeNests", fn := fun _ => fun
  | [d1, d2] => { results := [.lit (.bool true)], args := [d1, d2] }
  | _ => none }
def writeNestsRow : OpenClaim := { program := "ytmclabehpfpnnaadoor", sum := "919c56c389b31002838ae70cd7b1f90872b9f29484e0dba560e02922d8688eee", func := "pavane/pavanelaw04.WriteNests", spec := "writeNests", inPlace := ["internal/abi.NoEscape", "internal/bytealg.IndexByteString"], unfollowed := true, recurses := true, named := ["math/bits.overflowError", "pavane/write.signs"], loops := true, apart := false, laid := [("pavane/write.signs", laid_pavane_write_signs)] }
def WriteNestsSaid : Prop := writeNestsRow.holds Tryd.pinned (OpenSpec.ofChange writeNestsSpec)

/-- ITS FALSE NEIGHBOUR: 'it returns false'. Refute it at one input. -/
def writeNestsWrong : ChangeSpec := { name := "writeNests", fn := fun _ => fun
  | [d1, d2] => { results := [.lit (.bool false)], args := [d1, d2] }
  | _ => none }
def WriteNestsWrongFalsely : Prop := writeNestsRow.holds Tryd.pinned (OpenSpec.ofChange writeNestsWrong)

/-- 'pavanelaw04.WriteShows': WHATEVER THE INPUT: true; the input reads as it did. -/
def writeShowsSpec : ChangeSpec := { name := "writeShows", fn := fun _ => fun
  | [d] => { results := [.lit (.bool true)], args := [d] }
  | _ => none }
def writeShowsRow : OpenClaim := { program := "ytmclabehpfpnnaadoor", sum := "919c56c389b31002838ae70cd7b1f90872b9f29484e0dba560e02922d8688eee", func := "pavane/pavanelaw04.WriteShows", spec := "writeShows", inPlace := ["internal/abi.NoEscape", "internal/bytealg.IndexByteString"], unfollowed := true, recurses := true, named := ["math/bits.overflowError", "pavane/write.signs"], loops := true, apart := false, laid := [("pavane/write.signs", laid_pavane_write_signs)] }
def WriteShowsSaid : Prop := writeShowsRow.holds Tryd.pinned (OpenSpec.ofChange writeShowsSpec)

/-- ITS FALSE NEIGHBOUR: 'it returns false'. Refute it at one input. -/
def writeShowsWrong : ChangeSpec := { name := "writeShows", fn := fun _ => fun
  | [d] => { results := [.lit (.bool false)], args := [d] }
  | _ => none }
def WriteShowsWrongFalsely : Prop := writeShowsRow.holds Tryd.pinned (OpenSpec.ofChange writeShowsWrong)

/-- 'pavanelaw09.PrimGood': WHATEVER THE INPUT: true; the input reads as it did. -/
def primGoodSpec : ChangeSpec := { name := "primGood", fn := fun _ => fun
  | [d1, d2] => { results := [.lit (.bool true)], args := [d1, d2] }
  | _ => none }
def primGoodRow : OpenClaim := { program := "ytmclabehpfpnnaadoor", sum := "919c56c389b31002838ae70cd7b1f90872b9f29484e0dba560e02922d8688eee", func := "pavane/pavanelaw09.PrimGood", spec := "primGood", unfollowed := true, recurses := true, named := ["pavane/expand.names", "pavane/expand.arities", "math/bits.overflowError"], loops := true, apart := false, laid := [("pavane/expand.names", laid_pavane_expand_names), ("pavane/expand.arities", laid_pavane_expand_arities)] }
def PrimGoodSaid : Prop := primGoodRow.holds Tryd.pinned (OpenSpec.ofChange primGoodSpec)

/-- ITS FALSE NEIGHBOUR: 'it returns false'. Refute it at one input. -/
def primGoodWrong : ChangeSpec := { name := "primGood", fn := fun _ => fun
  | [d1, d2] => { results := [.lit (.bool false)], args := [d1, d2] }
  | _ => none }
def PrimGoodWrongFalsely : Prop := primGoodRow.holds Tryd.pinned (OpenSpec.ofChange primGoodWrong)

/- THE SECOND FORM. 'bulk': how many values and letters a reading holds, each counted each time it is reached (what is shared counts as often as it is met; a slice's spare places count too). A statement '..UptoSaid' is the law's where the arguments, and the package variables that the reading takes, are together of bulk at most 1048576: NARROWER than '..Said'. Prove '..Said' where nothing that the law and all that it calls make is longer than what came in: it says more and counts as full. Else prove '..UptoSaid'. A law counts once. -/
mutual
def uptoBulk {H : Type} : DataW H → Nat
  | .lit (.string bytes) => bytes.length + 1
  | .lit _ => 1
  | .nil => 1
  | .ptr d => uptoBulk d + 1
  | .slice elems spare => uptoBulkAll elems + uptoBulkAll spare + 1
  | .agg parts => uptoBulkAll parts + 1
  | .iface _ d => uptoBulk d + 1
  | .map entries => uptoBulkEntries entries + 1
  | .held _ => 1
def uptoBulkAll {H : Type} : List (DataW H) → Nat
  | [] => 0
  | d :: r => uptoBulk d + uptoBulkAll r
def uptoBulkEntries {H : Type} : List (Lit × DataW H) → Nat
  | [] => 0
  | x :: r => uptoBulkEntry x + uptoBulkEntries r
def uptoBulkEntry {H : Type} : Lit × DataW H → Nat
  | (.string bytes, d) => bytes.length + uptoBulk d + 1
  | (_, d) => uptoBulk d + 1
 end
def uptoSmall : (H : Type) → List (DataW H) → Bool := fun _ ds => decide (uptoBulkAll ds ≤ 1048576)
def OpenSpec.upto (s : _root_.Go.ChangeSpec) : _root_.Go.OpenSpec := { _root_.Go.OpenSpec.ofChange s with cond := some uptoSmall }

/-- 'pavanelaw04.WriteData', WHERE WHAT IT READS IS OF BULK AT MOST 1048576: true; the input reads as it did. -/
def writeDataUptoRow : OpenClaim := { program := "ytmclabehpfpnnaadoor", sum := "919c56c389b31002838ae70cd7b1f90872b9f29484e0dba560e02922d8688eee", func := "pavane/pavanelaw04.WriteData", spec := "writeData", inPlace := ["internal/abi.NoEscape", "internal/bytealg.IndexByteString"], unfollowed := true, recurses := true, named := ["math/bits.overflowError", "pavane/write.signs"], loops := true, apart := false, laid := [("pavane/write.signs", laid_pavane_write_signs)], narrowed := true }
def WriteDataUptoSaid : Prop := writeDataUptoRow.holds Tryd.pinned (OpenSpec.upto writeDataSpec)

/-- 'pavanelaw04.WriteNames', WHERE WHAT IT READS IS OF BULK AT MOST 1048576: true; the input reads as it did. -/
def writeNamesUptoRow : OpenClaim := { program := "ytmclabehpfpnnaadoor", sum := "919c56c389b31002838ae70cd7b1f90872b9f29484e0dba560e02922d8688eee", func := "pavane/pavanelaw04.WriteNames", spec := "writeNames", inPlace := ["internal/abi.NoEscape", "internal/bytealg.IndexByteString"], unfollowed := true, recurses := true, named := ["math/bits.overflowError", "pavane/write.signs"], apart := false, laid := [("pavane/write.signs", laid_pavane_write_signs)], narrowed := true }
def WriteNamesUptoSaid : Prop := writeNamesUptoRow.holds Tryd.pinned (OpenSpec.upto writeNamesSpec)

/-- 'pavanelaw04.WriteApart', WHERE WHAT IT READS IS OF BULK AT MOST 1048576: true; the input reads as it did. -/
def writeApartUptoRow : OpenClaim := { program := "ytmclabehpfpnnaadoor", sum := "919c56c389b31002838ae70cd7b1f90872b9f29484e0dba560e02922d8688eee", func := "pavane/pavanelaw04.WriteApart", spec := "writeApart", inPlace := ["internal/abi.NoEscape", "internal/bytealg.IndexByteString"], unfollowed := true, recurses := true, named := ["math/bits.overflowError", "pavane/write.signs"], apart := false, laid := [("pavane/write.signs", laid_pavane_write_signs)], narrowed := true }
def WriteApartUptoSaid : Prop := writeApartUptoRow.holds Tryd.pinned (OpenSpec.upto writeApartSpec)

/-- 'pavanelaw04.WriteClean', WHERE WHAT IT READS IS OF BULK AT MOST 1048576: true; the input reads as it did. -/
def writeCleanUptoRow : OpenClaim := { program := "ytmclabehpfpnnaadoor", sum := "919c56c389b31002838ae70cd7b1f90872b9f29484e0dba560e02922d8688eee", func := "pavane/pavanelaw04.WriteClean", spec := "writeClean", inPlace := ["internal/abi.NoEscape", "internal/bytealg.IndexByteString"], unfollowed := true, recurses := true, named := ["math/bits.overflowError", "pavane/write.signs"], apart := false, laid := [("pavane/write.signs", laid_pavane_write_signs)], narrowed := true }
def WriteCleanUptoSaid : Prop := writeCleanUptoRow.holds Tryd.pinned (OpenSpec.upto writeCleanSpec)

/-- 'pavanelaw04.WriteNests', WHERE WHAT IT READS IS OF BULK AT MOST 1048576: true; the input reads as it did. -/
def writeNestsUptoRow : OpenClaim := { program := "ytmclabehpfpnnaadoor", sum := "919c56c389b31002838ae70cd7b1f90872b9f29484e0dba560e02922d8688eee", func := "pavane/pavanelaw04.WriteNests", spec := "writeNests", inPlace := ["internal/abi.NoEscape", "internal/bytealg.IndexByteString"], unfollowed := true, recurses := true, named := ["math/bits.overflowError", "pavane/write.signs"], loops := true, apart := false, laid := [("pavane/write.signs", laid_pavane_write_signs)], narrowed := true }
def WriteNestsUptoSaid : Prop := writeNestsUptoRow.holds Tryd.pinned (OpenSpec.upto writeNestsSpec)

/-- 'pavanelaw04.WriteShows', WHERE WHAT IT READS IS OF BULK AT MOST 1048576: true; the input reads as it did. -/
def writeShowsUptoRow : OpenClaim := { program := "ytmclabehpfpnnaadoor", sum := "919c56c389b31002838ae70cd7b1f90872b9f29484e0dba560e02922d8688eee", func := "pavane/pavanelaw04.WriteShows", spec := "writeShows", inPlace := ["internal/abi.NoEscape", "internal/bytealg.IndexByteString"], unfollowed := true, recurses := true, named := ["math/bits.overflowError", "pavane/write.signs"], loops := true, apart := false, laid := [("pavane/write.signs", laid_pavane_write_signs)], narrowed := true }
def WriteShowsUptoSaid : Prop := writeShowsUptoRow.holds Tryd.pinned (OpenSpec.upto writeShowsSpec)

/-- 'pavanelaw09.PrimGood', WHERE WHAT IT READS IS OF BULK AT MOST 1048576: true; the input reads as it did. -/
def primGoodUptoRow : OpenClaim := { program := "ytmclabehpfpnnaadoor", sum := "919c56c389b31002838ae70cd7b1f90872b9f29484e0dba560e02922d8688eee", func := "pavane/pavanelaw09.PrimGood", spec := "primGood", unfollowed := true, recurses := true, named := ["pavane/expand.names", "pavane/expand.arities", "math/bits.overflowError"], loops := true, apart := false, laid := [("pavane/expand.names", laid_pavane_expand_names), ("pavane/expand.arities", laid_pavane_expand_arities)], narrowed := true }
def PrimGoodUptoSaid : Prop := primGoodUptoRow.holds Tryd.pinned (OpenSpec.upto primGoodSpec)

end Rows
end Go.Proofs.YtmclabehpfpnnaaDoor
