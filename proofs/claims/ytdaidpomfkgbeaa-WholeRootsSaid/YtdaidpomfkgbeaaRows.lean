/-
  No cell of these rows narrows 'for every input' (looked for: loops, veiled, ifaces, maps, wideKeys, modest, calm, conditions, laid).
  DERIVED. THE GIVEN ROWS OF THIS SEAT. 17 by the template 'for every input the law returns true; each argument reads behind the call as it read before'; 0 by the template 'total and deterministic' (their statements: YtdaidpomfkgbeaaTotals.lean).
  GIVEN WITH THE SEED: the statements are not yours to turn. If you find one false, say at which input.
  Laid BY PROGRAM, IN A SANDBOX (cutbox-rows.mjs): the forced cells as the released guide's own fill.sh prints them over the translation 7c0686bb336b8383… (all of the seat's roots in one cut). By AI agents, Wed Nov 11 2026. No macro, syntax, notation, axiom, sorry.
-/
import Derived.Test.YtdaidpomfkgbeaaChecked
import GoSem.Claim
import GoSem.ClaimJoined
import GoSem.ClaimMapViews
import Derived.JoinedTies
import Derived.KernelRfl
namespace Go.Proofs.Ytdaidpomfkgbeaa
/- THE CELL 'sum', in the pinned program and in every row, IS THE sha256 OF THE DUMP (.gsa) THAT YtdaidpomfkgbeaaProg.lean LOADS. Nothing in Lean hashes anything: it is a label: what it is worth is what the hold of that sum in a sandbox is worth. -/
noncomputable def Try.pinned : Pinned := { name := "ytdaidpomfkgbeaa", sum := "7c0686bb336b838351f4d31500ae04b1bc0d63e3860c3642fb7f453efed6faa9", checked := Try.checked }
namespace Rows
def none {H : Type} : Left H := { results := [], args := [] }

/-- 'pavanelaw01.NatDivs': WHATEVER THE INPUT: true; the input reads as it did. -/
def natDivsSpec : ChangeSpec := { name := "natDivs", fn := fun _ => fun
  | [d1, d2, d3] => { results := [.lit (.bool true)], args := [d1, d2, d3] }
  | _ => none }
def natDivsRow : OpenClaim := { program := "ytdaidpomfkgbeaa", sum := "7c0686bb336b838351f4d31500ae04b1bc0d63e3860c3642fb7f453efed6faa9", func := "pavane/pavanelaw01.NatDivs", spec := "natDivs", named := ["math/bits.overflowError"], apart := false }
def NatDivsSaid : Prop := natDivsRow.holds Try.pinned (OpenSpec.ofChange natDivsSpec)

/-- ITS FALSE NEIGHBOUR: 'it returns false'. Refute it at one input. -/
def natDivsWrong : ChangeSpec := { name := "natDivs", fn := fun _ => fun
  | [d1, d2, d3] => { results := [.lit (.bool false)], args := [d1, d2, d3] }
  | _ => none }
def NatDivsWrongFalsely : Prop := natDivsRow.holds Try.pinned (OpenSpec.ofChange natDivsWrong)

/-- 'pavanelaw01.NatTexts': WHATEVER THE INPUT: true; the input reads as it did. -/
def natTextsSpec : ChangeSpec := { name := "natTexts", fn := fun _ => fun
  | [d1, d2, d3] => { results := [.lit (.bool true)], args := [d1, d2, d3] }
  | _ => none }
def natTextsRow : OpenClaim := { program := "ytdaidpomfkgbeaa", sum := "7c0686bb336b838351f4d31500ae04b1bc0d63e3860c3642fb7f453efed6faa9", func := "pavane/pavanelaw01.NatTexts", spec := "natTexts", named := ["math/bits.overflowError"], apart := false }
def NatTextsSaid : Prop := natTextsRow.holds Try.pinned (OpenSpec.ofChange natTextsSpec)

/-- ITS FALSE NEIGHBOUR: 'it returns false'. Refute it at one input. -/
def natTextsWrong : ChangeSpec := { name := "natTexts", fn := fun _ => fun
  | [d1, d2, d3] => { results := [.lit (.bool false)], args := [d1, d2, d3] }
  | _ => none }
def NatTextsWrongFalsely : Prop := natTextsRow.holds Try.pinned (OpenSpec.ofChange natTextsWrong)

/-- 'pavanelaw01.NatDigits': WHATEVER THE INPUT: true; the input reads as it did. -/
def natDigitsSpec : ChangeSpec := { name := "natDigits", fn := fun _ => fun
  | [d1, d2, d3] => { results := [.lit (.bool true)], args := [d1, d2, d3] }
  | _ => none }
def natDigitsRow : OpenClaim := { program := "ytdaidpomfkgbeaa", sum := "7c0686bb336b838351f4d31500ae04b1bc0d63e3860c3642fb7f453efed6faa9", func := "pavane/pavanelaw01.NatDigits", spec := "natDigits", named := ["math/bits.overflowError"], apart := false }
def NatDigitsSaid : Prop := natDigitsRow.holds Try.pinned (OpenSpec.ofChange natDigitsSpec)

/-- ITS FALSE NEIGHBOUR: 'it returns false'. Refute it at one input. -/
def natDigitsWrong : ChangeSpec := { name := "natDigits", fn := fun _ => fun
  | [d1, d2, d3] => { results := [.lit (.bool false)], args := [d1, d2, d3] }
  | _ => none }
def NatDigitsWrongFalsely : Prop := natDigitsRow.holds Try.pinned (OpenSpec.ofChange natDigitsWrong)

/-- 'pavanelaw01.NatShifts': WHATEVER THE INPUT: true; the input reads as it did. -/
def natShiftsSpec : ChangeSpec := { name := "natShifts", fn := fun _ => fun
  | [d1, d2] => { results := [.lit (.bool true)], args := [d1, d2] }
  | _ => none }
def natShiftsRow : OpenClaim := { program := "ytdaidpomfkgbeaa", sum := "7c0686bb336b838351f4d31500ae04b1bc0d63e3860c3642fb7f453efed6faa9", func := "pavane/pavanelaw01.NatShifts", spec := "natShifts", named := ["math/bits.overflowError"], apart := false }
def NatShiftsSaid : Prop := natShiftsRow.holds Try.pinned (OpenSpec.ofChange natShiftsSpec)

/-- ITS FALSE NEIGHBOUR: 'it returns false'. Refute it at one input. -/
def natShiftsWrong : ChangeSpec := { name := "natShifts", fn := fun _ => fun
  | [d1, d2] => { results := [.lit (.bool false)], args := [d1, d2] }
  | _ => none }
def NatShiftsWrongFalsely : Prop := natShiftsRow.holds Try.pinned (OpenSpec.ofChange natShiftsWrong)

/-- 'pavanelaw01.NatTwos': WHATEVER THE INPUT: true; the input reads as it did. -/
def natTwosSpec : ChangeSpec := { name := "natTwos", fn := fun _ => fun
  | [d1, d2] => { results := [.lit (.bool true)], args := [d1, d2] }
  | _ => none }
def natTwosRow : OpenClaim := { program := "ytdaidpomfkgbeaa", sum := "7c0686bb336b838351f4d31500ae04b1bc0d63e3860c3642fb7f453efed6faa9", func := "pavane/pavanelaw01.NatTwos", spec := "natTwos", named := ["math/bits.overflowError"], apart := false }
def NatTwosSaid : Prop := natTwosRow.holds Try.pinned (OpenSpec.ofChange natTwosSpec)

/-- ITS FALSE NEIGHBOUR: 'it returns false'. Refute it at one input. -/
def natTwosWrong : ChangeSpec := { name := "natTwos", fn := fun _ => fun
  | [d1, d2] => { results := [.lit (.bool false)], args := [d1, d2] }
  | _ => none }
def NatTwosWrongFalsely : Prop := natTwosRow.holds Try.pinned (OpenSpec.ofChange natTwosWrong)

/-- 'pavanelaw01.NatRings': WHATEVER THE INPUT: true; the input reads as it did. -/
def natRingsSpec : ChangeSpec := { name := "natRings", fn := fun _ => fun
  | [d1, d2, d3] => { results := [.lit (.bool true)], args := [d1, d2, d3] }
  | _ => none }
def natRingsRow : OpenClaim := { program := "ytdaidpomfkgbeaa", sum := "7c0686bb336b838351f4d31500ae04b1bc0d63e3860c3642fb7f453efed6faa9", func := "pavane/pavanelaw01.NatRings", spec := "natRings", named := ["math/bits.overflowError"], apart := false }
def NatRingsSaid : Prop := natRingsRow.holds Try.pinned (OpenSpec.ofChange natRingsSpec)

/-- ITS FALSE NEIGHBOUR: 'it returns false'. Refute it at one input. -/
def natRingsWrong : ChangeSpec := { name := "natRings", fn := fun _ => fun
  | [d1, d2, d3] => { results := [.lit (.bool false)], args := [d1, d2, d3] }
  | _ => none }
def NatRingsWrongFalsely : Prop := natRingsRow.holds Try.pinned (OpenSpec.ofChange natRingsWrong)

/-- 'pavanelaw01.NatSums': WHATEVER THE INPUT: true; the input reads as it did. -/
def natSumsSpec : ChangeSpec := { name := "natSums", fn := fun _ => fun
  | [d1, d2] => { results := [.lit (.bool true)], args := [d1, d2] }
  | _ => none }
def natSumsRow : OpenClaim := { program := "ytdaidpomfkgbeaa", sum := "7c0686bb336b838351f4d31500ae04b1bc0d63e3860c3642fb7f453efed6faa9", func := "pavane/pavanelaw01.NatSums", spec := "natSums", named := ["math/bits.overflowError"], apart := false }
def NatSumsSaid : Prop := natSumsRow.holds Try.pinned (OpenSpec.ofChange natSumsSpec)

/-- ITS FALSE NEIGHBOUR: 'it returns false'. Refute it at one input. -/
def natSumsWrong : ChangeSpec := { name := "natSums", fn := fun _ => fun
  | [d1, d2] => { results := [.lit (.bool false)], args := [d1, d2] }
  | _ => none }
def NatSumsWrongFalsely : Prop := natSumsRow.holds Try.pinned (OpenSpec.ofChange natSumsWrong)

/-- 'pavanelaw01.NatOwn': WHATEVER THE INPUT: true; the input reads as it did. -/
def natOwnSpec : ChangeSpec := { name := "natOwn", fn := fun _ => fun
  | [d1, d2, d3] => { results := [.lit (.bool true)], args := [d1, d2, d3] }
  | _ => none }
def natOwnRow : OpenClaim := { program := "ytdaidpomfkgbeaa", sum := "7c0686bb336b838351f4d31500ae04b1bc0d63e3860c3642fb7f453efed6faa9", func := "pavane/pavanelaw01.NatOwn", spec := "natOwn", named := ["math/bits.overflowError"], apart := false }
def NatOwnSaid : Prop := natOwnRow.holds Try.pinned (OpenSpec.ofChange natOwnSpec)

/-- ITS FALSE NEIGHBOUR: 'it returns false'. Refute it at one input. -/
def natOwnWrong : ChangeSpec := { name := "natOwn", fn := fun _ => fun
  | [d1, d2, d3] => { results := [.lit (.bool false)], args := [d1, d2, d3] }
  | _ => none }
def NatOwnWrongFalsely : Prop := natOwnRow.holds Try.pinned (OpenSpec.ofChange natOwnWrong)

/-- 'pavanelaw01.NatBack': WHATEVER THE INPUT: true; the input reads as it did. -/
def natBackSpec : ChangeSpec := { name := "natBack", fn := fun _ => fun
  | [d1, d2] => { results := [.lit (.bool true)], args := [d1, d2] }
  | _ => none }
def natBackRow : OpenClaim := { program := "ytdaidpomfkgbeaa", sum := "7c0686bb336b838351f4d31500ae04b1bc0d63e3860c3642fb7f453efed6faa9", func := "pavane/pavanelaw01.NatBack", spec := "natBack", named := ["math/bits.overflowError"], apart := false }
def NatBackSaid : Prop := natBackRow.holds Try.pinned (OpenSpec.ofChange natBackSpec)

/-- ITS FALSE NEIGHBOUR: 'it returns false'. Refute it at one input. -/
def natBackWrong : ChangeSpec := { name := "natBack", fn := fun _ => fun
  | [d1, d2] => { results := [.lit (.bool false)], args := [d1, d2] }
  | _ => none }
def NatBackWrongFalsely : Prop := natBackRow.holds Try.pinned (OpenSpec.ofChange natBackWrong)

/-- 'pavanelaw02.WholeDivs': WHATEVER THE INPUT: true; the input reads as it did. -/
def wholeDivsSpec : ChangeSpec := { name := "wholeDivs", fn := fun _ => fun
  | [d1, d2] => { results := [.lit (.bool true)], args := [d1, d2] }
  | _ => none }
def wholeDivsRow : OpenClaim := { program := "ytdaidpomfkgbeaa", sum := "7c0686bb336b838351f4d31500ae04b1bc0d63e3860c3642fb7f453efed6faa9", func := "pavane/pavanelaw02.WholeDivs", spec := "wholeDivs", unfollowed := true, recurses := true, named := ["math/bits.overflowError"], apart := false }
def WholeDivsSaid : Prop := wholeDivsRow.holds Try.pinned (OpenSpec.ofChange wholeDivsSpec)

/-- ITS FALSE NEIGHBOUR: 'it returns false'. Refute it at one input. -/
def wholeDivsWrong : ChangeSpec := { name := "wholeDivs", fn := fun _ => fun
  | [d1, d2] => { results := [.lit (.bool false)], args := [d1, d2] }
  | _ => none }
def WholeDivsWrongFalsely : Prop := wholeDivsRow.holds Try.pinned (OpenSpec.ofChange wholeDivsWrong)

/-- 'pavanelaw02.WholeOrder': WHATEVER THE INPUT: true; the input reads as it did. -/
def wholeOrderSpec : ChangeSpec := { name := "wholeOrder", fn := fun _ => fun
  | [d1, d2, d3] => { results := [.lit (.bool true)], args := [d1, d2, d3] }
  | _ => none }
def wholeOrderRow : OpenClaim := { program := "ytdaidpomfkgbeaa", sum := "7c0686bb336b838351f4d31500ae04b1bc0d63e3860c3642fb7f453efed6faa9", func := "pavane/pavanelaw02.WholeOrder", spec := "wholeOrder", unfollowed := true, recurses := true, named := ["math/bits.overflowError"], apart := false }
def WholeOrderSaid : Prop := wholeOrderRow.holds Try.pinned (OpenSpec.ofChange wholeOrderSpec)

/-- ITS FALSE NEIGHBOUR: 'it returns false'. Refute it at one input. -/
def wholeOrderWrong : ChangeSpec := { name := "wholeOrder", fn := fun _ => fun
  | [d1, d2, d3] => { results := [.lit (.bool false)], args := [d1, d2, d3] }
  | _ => none }
def WholeOrderWrongFalsely : Prop := wholeOrderRow.holds Try.pinned (OpenSpec.ofChange wholeOrderWrong)

/-- 'pavanelaw02.WholeBack': WHATEVER THE INPUT: true; the input reads as it did. -/
def wholeBackSpec : ChangeSpec := { name := "wholeBack", fn := fun _ => fun
  | [d1, d2] => { results := [.lit (.bool true)], args := [d1, d2] }
  | _ => none }
def wholeBackRow : OpenClaim := { program := "ytdaidpomfkgbeaa", sum := "7c0686bb336b838351f4d31500ae04b1bc0d63e3860c3642fb7f453efed6faa9", func := "pavane/pavanelaw02.WholeBack", spec := "wholeBack", unfollowed := true, recurses := true, named := ["math/bits.overflowError"], apart := false }
def WholeBackSaid : Prop := wholeBackRow.holds Try.pinned (OpenSpec.ofChange wholeBackSpec)

/-- ITS FALSE NEIGHBOUR: 'it returns false'. Refute it at one input. -/
def wholeBackWrong : ChangeSpec := { name := "wholeBack", fn := fun _ => fun
  | [d1, d2] => { results := [.lit (.bool false)], args := [d1, d2] }
  | _ => none }
def WholeBackWrongFalsely : Prop := wholeBackRow.holds Try.pinned (OpenSpec.ofChange wholeBackWrong)

/-- 'pavanelaw02.WholeSigns': WHATEVER THE INPUT: true; the input reads as it did. -/
def wholeSignsSpec : ChangeSpec := { name := "wholeSigns", fn := fun _ => fun
  | [d1, d2, d3] => { results := [.lit (.bool true)], args := [d1, d2, d3] }
  | _ => none }
def wholeSignsRow : OpenClaim := { program := "ytdaidpomfkgbeaa", sum := "7c0686bb336b838351f4d31500ae04b1bc0d63e3860c3642fb7f453efed6faa9", func := "pavane/pavanelaw02.WholeSigns", spec := "wholeSigns", unfollowed := true, recurses := true, named := ["math/bits.overflowError"], apart := false }
def WholeSignsSaid : Prop := wholeSignsRow.holds Try.pinned (OpenSpec.ofChange wholeSignsSpec)

/-- ITS FALSE NEIGHBOUR: 'it returns false'. Refute it at one input. -/
def wholeSignsWrong : ChangeSpec := { name := "wholeSigns", fn := fun _ => fun
  | [d1, d2, d3] => { results := [.lit (.bool false)], args := [d1, d2, d3] }
  | _ => none }
def WholeSignsWrongFalsely : Prop := wholeSignsRow.holds Try.pinned (OpenSpec.ofChange wholeSignsWrong)

/-- 'pavanelaw02.WholeGcds': WHATEVER THE INPUT: true; the input reads as it did. -/
def wholeGcdsSpec : ChangeSpec := { name := "wholeGcds", fn := fun _ => fun
  | [d1, d2] => { results := [.lit (.bool true)], args := [d1, d2] }
  | _ => none }
def wholeGcdsRow : OpenClaim := { program := "ytdaidpomfkgbeaa", sum := "7c0686bb336b838351f4d31500ae04b1bc0d63e3860c3642fb7f453efed6faa9", func := "pavane/pavanelaw02.WholeGcds", spec := "wholeGcds", unfollowed := true, recurses := true, named := ["math/bits.overflowError"], apart := false }
def WholeGcdsSaid : Prop := wholeGcdsRow.holds Try.pinned (OpenSpec.ofChange wholeGcdsSpec)

/-- ITS FALSE NEIGHBOUR: 'it returns false'. Refute it at one input. -/
def wholeGcdsWrong : ChangeSpec := { name := "wholeGcds", fn := fun _ => fun
  | [d1, d2] => { results := [.lit (.bool false)], args := [d1, d2] }
  | _ => none }
def WholeGcdsWrongFalsely : Prop := wholeGcdsRow.holds Try.pinned (OpenSpec.ofChange wholeGcdsWrong)

/-- 'pavanelaw02.WholeSums': WHATEVER THE INPUT: true; the input reads as it did. -/
def wholeSumsSpec : ChangeSpec := { name := "wholeSums", fn := fun _ => fun
  | [d1, d2, d3] => { results := [.lit (.bool true)], args := [d1, d2, d3] }
  | _ => none }
def wholeSumsRow : OpenClaim := { program := "ytdaidpomfkgbeaa", sum := "7c0686bb336b838351f4d31500ae04b1bc0d63e3860c3642fb7f453efed6faa9", func := "pavane/pavanelaw02.WholeSums", spec := "wholeSums", unfollowed := true, recurses := true, named := ["math/bits.overflowError"], apart := false }
def WholeSumsSaid : Prop := wholeSumsRow.holds Try.pinned (OpenSpec.ofChange wholeSumsSpec)

/-- ITS FALSE NEIGHBOUR: 'it returns false'. Refute it at one input. -/
def wholeSumsWrong : ChangeSpec := { name := "wholeSums", fn := fun _ => fun
  | [d1, d2, d3] => { results := [.lit (.bool false)], args := [d1, d2, d3] }
  | _ => none }
def WholeSumsWrongFalsely : Prop := wholeSumsRow.holds Try.pinned (OpenSpec.ofChange wholeSumsWrong)

/-- 'pavanelaw02.WholeRoots': WHATEVER THE INPUT: true; the input reads as it did. -/
def wholeRootsSpec : ChangeSpec := { name := "wholeRoots", fn := fun _ => fun
  | [d1, d2] => { results := [.lit (.bool true)], args := [d1, d2] }
  | _ => none }
def wholeRootsRow : OpenClaim := { program := "ytdaidpomfkgbeaa", sum := "7c0686bb336b838351f4d31500ae04b1bc0d63e3860c3642fb7f453efed6faa9", func := "pavane/pavanelaw02.WholeRoots", spec := "wholeRoots", unfollowed := true, recurses := true, named := ["math/bits.overflowError"], apart := false }
def WholeRootsSaid : Prop := wholeRootsRow.holds Try.pinned (OpenSpec.ofChange wholeRootsSpec)

/-- ITS FALSE NEIGHBOUR: 'it returns false'. Refute it at one input. -/
def wholeRootsWrong : ChangeSpec := { name := "wholeRoots", fn := fun _ => fun
  | [d1, d2] => { results := [.lit (.bool false)], args := [d1, d2] }
  | _ => none }
def WholeRootsWrongFalsely : Prop := wholeRootsRow.holds Try.pinned (OpenSpec.ofChange wholeRootsWrong)

/-- 'pavanelaw02.WholeTexts': WHATEVER THE INPUT: true; the input reads as it did. -/
def wholeTextsSpec : ChangeSpec := { name := "wholeTexts", fn := fun _ => fun
  | [d1, d2] => { results := [.lit (.bool true)], args := [d1, d2] }
  | _ => none }
def wholeTextsRow : OpenClaim := { program := "ytdaidpomfkgbeaa", sum := "7c0686bb336b838351f4d31500ae04b1bc0d63e3860c3642fb7f453efed6faa9", func := "pavane/pavanelaw02.WholeTexts", spec := "wholeTexts", unfollowed := true, recurses := true, named := ["math/bits.overflowError"], apart := false }
def WholeTextsSaid : Prop := wholeTextsRow.holds Try.pinned (OpenSpec.ofChange wholeTextsSpec)

/-- ITS FALSE NEIGHBOUR: 'it returns false'. Refute it at one input. -/
def wholeTextsWrong : ChangeSpec := { name := "wholeTexts", fn := fun _ => fun
  | [d1, d2] => { results := [.lit (.bool false)], args := [d1, d2] }
  | _ => none }
def WholeTextsWrongFalsely : Prop := wholeTextsRow.holds Try.pinned (OpenSpec.ofChange wholeTextsWrong)

/- THE SECOND FORM. 'bulk': how many values and letters a reading holds, each counted each time it is reached (what is shared counts as often as it is met; a slice's spare places count too). A statement '..UptoSaid' is the law's where the arguments, and the package variables that the reading takes, are together of bulk at most 1048576: NARROWER than '..Said'. Prove '..Said' where nothing that the law and all that it calls make is longer than what came in: it says more and counts as full. Else prove '..UptoSaid'. A law counts once. -/
mutual
def uptoBulk {H : Type} : DataW H → Nat
  | .lit (.string bytes) => bytes.length + 1
  | .lit _ => 1
  | .nil => 1
  | .ptr d => uptoBulk d + 1
  | .slice elems spare => uptoBulkAll elems + uptoBulkAll spare + 1
  | .agg parts => uptoBulkAll parts + 1
  | .iface _ d => uptoBulk d + 1
  | .map entries => uptoBulkEntries entries + 1
  | .held _ => 1
def uptoBulkAll {H : Type} : List (DataW H) → Nat
  | [] => 0
  | d :: r => uptoBulk d + uptoBulkAll r
def uptoBulkEntries {H : Type} : List (Lit × DataW H) → Nat
  | [] => 0
  | x :: r => uptoBulkEntry x + uptoBulkEntries r
def uptoBulkEntry {H : Type} : Lit × DataW H → Nat
  | (.string bytes, d) => bytes.length + uptoBulk d + 1
  | (_, d) => uptoBulk d + 1
 end
def uptoSmall : (H : Type) → List (DataW H) → Bool := fun _ ds => decide (uptoBulkAll ds ≤ 1048576)
def OpenSpec.upto (s : _root_.Go.ChangeSpec) : _root_.Go.OpenSpec := { _root_.Go.OpenSpec.ofChange s with cond := some uptoSmall }

/-- 'pavanelaw01.NatDivs', WHERE WHAT IT READS IS OF BULK AT MOST 1048576: true; the input reads as it did. -/
def natDivsUptoRow : OpenClaim := { program := "ytdaidpomfkgbeaa", sum := "7c0686bb336b838351f4d31500ae04b1bc0d63e3860c3642fb7f453efed6faa9", func := "pavane/pavanelaw01.NatDivs", spec := "natDivs", named := ["math/bits.overflowError"], apart := false, narrowed := true }
def NatDivsUptoSaid : Prop := natDivsUptoRow.holds Try.pinned (OpenSpec.upto natDivsSpec)

/-- 'pavanelaw01.NatTexts', WHERE WHAT IT READS IS OF BULK AT MOST 1048576: true; the input reads as it did. -/
def natTextsUptoRow : OpenClaim := { program := "ytdaidpomfkgbeaa", sum := "7c0686bb336b838351f4d31500ae04b1bc0d63e3860c3642fb7f453efed6faa9", func := "pavane/pavanelaw01.NatTexts", spec := "natTexts", named := ["math/bits.overflowError"], apart := false, narrowed := true }
def NatTextsUptoSaid : Prop := natTextsUptoRow.holds Try.pinned (OpenSpec.upto natTextsSpec)

/-- 'pavanelaw01.NatDigits', WHERE WHAT IT READS IS OF BULK AT MOST 1048576: true; the input reads as it did. -/
def natDigitsUptoRow : OpenClaim := { program := "ytdaidpomfkgbeaa", sum := "7c0686bb336b838351f4d31500ae04b1bc0d63e3860c3642fb7f453efed6faa9", func := "pavane/pavanelaw01.NatDigits", spec := "natDigits", named := ["math/bits.overflowError"], apart := false, narrowed := true }
def NatDigitsUptoSaid : Prop := natDigitsUptoRow.holds Try.pinned (OpenSpec.upto natDigitsSpec)

/-- 'pavanelaw01.NatShifts', WHERE WHAT IT READS IS OF BULK AT MOST 1048576: true; the input reads as it did. -/
def natShiftsUptoRow : OpenClaim := { program := "ytdaidpomfkgbeaa", sum := "7c0686bb336b838351f4d31500ae04b1bc0d63e3860c3642fb7f453efed6faa9", func := "pavane/pavanelaw01.NatShifts", spec := "natShifts", named := ["math/bits.overflowError"], apart := false, narrowed := true }
def NatShiftsUptoSaid : Prop := natShiftsUptoRow.holds Try.pinned (OpenSpec.upto natShiftsSpec)

/-- 'pavanelaw01.NatTwos', WHERE WHAT IT READS IS OF BULK AT MOST 1048576: true; the input reads as it did. -/
def natTwosUptoRow : OpenClaim := { program := "ytdaidpomfkgbeaa", sum := "7c0686bb336b838351f4d31500ae04b1bc0d63e3860c3642fb7f453efed6faa9", func := "pavane/pavanelaw01.NatTwos", spec := "natTwos", named := ["math/bits.overflowError"], apart := false, narrowed := true }
def NatTwosUptoSaid : Prop := natTwosUptoRow.holds Try.pinned (OpenSpec.upto natTwosSpec)

/-- 'pavanelaw01.NatRings', WHERE WHAT IT READS IS OF BULK AT MOST 1048576: true; the input reads as it did. -/
def natRingsUptoRow : OpenClaim := { program := "ytdaidpomfkgbeaa", sum := "7c0686bb336b838351f4d31500ae04b1bc0d63e3860c3642fb7f453efed6faa9", func := "pavane/pavanelaw01.NatRings", spec := "natRings", named := ["math/bits.overflowError"], apart := false, narrowed := true }
def NatRingsUptoSaid : Prop := natRingsUptoRow.holds Try.pinned (OpenSpec.upto natRingsSpec)

/-- 'pavanelaw01.NatSums', WHERE WHAT IT READS IS OF BULK AT MOST 1048576: true; the input reads as it did. -/
def natSumsUptoRow : OpenClaim := { program := "ytdaidpomfkgbeaa", sum := "7c0686bb336b838351f4d31500ae04b1bc0d63e3860c3642fb7f453efed6faa9", func := "pavane/pavanelaw01.NatSums", spec := "natSums", named := ["math/bits.overflowError"], apart := false, narrowed := true }
def NatSumsUptoSaid : Prop := natSumsUptoRow.holds Try.pinned (OpenSpec.upto natSumsSpec)

/-- 'pavanelaw01.NatOwn', WHERE WHAT IT READS IS OF BULK AT MOST 1048576: true; the input reads as it did. -/
def natOwnUptoRow : OpenClaim := { program := "ytdaidpomfkgbeaa", sum := "7c0686bb336b838351f4d31500ae04b1bc0d63e3860c3642fb7f453efed6faa9", func := "pavane/pavanelaw01.NatOwn", spec := "natOwn", named := ["math/bits.overflowError"], apart := false, narrowed := true }
def NatOwnUptoSaid : Prop := natOwnUptoRow.holds Try.pinned (OpenSpec.upto natOwnSpec)

/-- 'pavanelaw01.NatBack', WHERE WHAT IT READS IS OF BULK AT MOST 1048576: true; the input reads as it did. -/
def natBackUptoRow : OpenClaim := { program := "ytdaidpomfkgbeaa", sum := "7c0686bb336b838351f4d31500ae04b1bc0d63e3860c3642fb7f453efed6faa9", func := "pavane/pavanelaw01.NatBack", spec := "natBack", named := ["math/bits.overflowError"], apart := false, narrowed := true }
def NatBackUptoSaid : Prop := natBackUptoRow.holds Try.pinned (OpenSpec.upto natBackSpec)

/-- 'pavanelaw02.WholeDivs', WHERE WHAT IT READS IS OF BULK AT MOST 1048576: true; the input reads as it did. -/
def wholeDivsUptoRow : OpenClaim := { program := "ytdaidpomfkgbeaa", sum := "7c0686bb336b838351f4d31500ae04b1bc0d63e3860c3642fb7f453efed6faa9", func := "pavane/pavanelaw02.WholeDivs", spec := "wholeDivs", unfollowed := true, recurses := true, named := ["math/bits.overflowError"], apart := false, narrowed := true }
def WholeDivsUptoSaid : Prop := wholeDivsUptoRow.holds Try.pinned (OpenSpec.upto wholeDivsSpec)

/-- 'pavanelaw02.WholeOrder', WHERE WHAT IT READS IS OF BULK AT MOST 1048576: true; the input reads as it did. -/
def wholeOrderUptoRow : OpenClaim := { program := "ytdaidpomfkgbeaa", sum := "7c0686bb336b838351f4d31500ae04b1bc0d63e3860c3642fb7f453efed6faa9", func := "pavane/pavanelaw02.WholeOrder", spec := "wholeOrder", unfollowed := true, recurses := true, named := ["math/bits.overflowError"], apart := false, narrowed := true }
def WholeOrderUptoSaid : Prop := wholeOrderUptoRow.holds Try.pinned (OpenSpec.upto wholeOrderSpec)

/-- 'pavanelaw02.WholeBack', WHERE WHAT IT READS IS OF BULK AT MOST 1048576: true; the input reads as it did. -/
def wholeBackUptoRow : OpenClaim := { program := "ytdaidpomfkgbeaa", sum := "7c0686bb336b838351f4d31500ae04b1bc0d63e3860c3642fb7f453efed6faa9", func := "pavane/pavanelaw02.WholeBack", spec := "wholeBack", unfollowed := true, recurses := true, named := ["math/bits.overflowError"], apart := false, narrowed := true }
def WholeBackUptoSaid : Prop := wholeBackUptoRow.holds Try.pinned (OpenSpec.upto wholeBackSpec)

/-- 'pavanelaw02.WholeSigns', WHERE WHAT IT READS IS OF BULK AT MOST 1048576: true; the input reads as it did. -/
def wholeSignsUptoRow : OpenClaim := { program := "ytdaidpomfkgbeaa", sum := "7c0686bb336b838351f4d31500ae04b1bc0d63e3860c3642fb7f453efed6faa9", func := "pavane/pavanelaw02.WholeSigns", spec := "wholeSigns", unfollowed := true, recurses := true, named := ["math/bits.overflowError"], apart := false, narrowed := true }
def WholeSignsUptoSaid : Prop := wholeSignsUptoRow.holds Try.pinned (OpenSpec.upto wholeSignsSpec)

/-- 'pavanelaw02.WholeGcds', WHERE WHAT IT READS IS OF BULK AT MOST 1048576: true; the input reads as it did. -/
def wholeGcdsUptoRow : OpenClaim := { program := "ytdaidpomfkgbeaa", sum := "7c0686bb336b838351f4d31500ae04b1bc0d63e3860c3642fb7f453efed6faa9", func := "pavane/pavanelaw02.WholeGcds", spec := "wholeGcds", unfollowed := true, recurses := true, named := ["math/bits.overflowError"], apart := false, narrowed := true }
def WholeGcdsUptoSaid : Prop := wholeGcdsUptoRow.holds Try.pinned (OpenSpec.upto wholeGcdsSpec)

/-- 'pavanelaw02.WholeSums', WHERE WHAT IT READS IS OF BULK AT MOST 1048576: true; the input reads as it did. -/
def wholeSumsUptoRow : OpenClaim := { program := "ytdaidpomfkgbeaa", sum := "7c0686bb336b838351f4d31500ae04b1bc0d63e3860c3642fb7f453efed6faa9", func := "pavane/pavanelaw02.WholeSums", spec := "wholeSums", unfollowed := true, recurses := true, named := ["math/bits.overflowError"], apart := false, narrowed := true }
def WholeSumsUptoSaid : Prop := wholeSumsUptoRow.holds Try.pinned (OpenSpec.upto wholeSumsSpec)

/-- 'pavanelaw02.WholeRoots', WHERE WHAT IT READS IS OF BULK AT MOST 1048576: true; the input reads as it did. -/
def wholeRootsUptoRow : OpenClaim := { program := "ytdaidpomfkgbeaa", sum := "7c0686bb336b838351f4d31500ae04b1bc0d63e3860c3642fb7f453efed6faa9", func := "pavane/pavanelaw02.WholeRoots", spec := "wholeRoots", unfollowed := true, recurses := true, named := ["math/bits.overflowError"], apart := false, narrowed := true }
def WholeRootsUptoSaid : Prop := wholeRootsUptoRow.holds Try.pinned (OpenSpec.upto wholeRootsSpec)

/-- 'pavanelaw02.WholeTexts', WHERE WHAT IT READS IS OF BULK AT MOST 1048576: true; the input reads as it did. -/
def wholeTextsUptoRow : OpenClaim := { program := "ytdaidpomfkgbeaa", sum := "7c0686bb336b838351f4d31500ae04b1bc0d63e3860c3642fb7f453efed6faa9", func := "pavane/pavanelaw02.WholeTexts", spec := "wholeTexts", unfollowed := true, recurses := true, named := ["math/bits.overflowError"], apart := false, narrowed := true }
def WholeTextsUptoSaid : Prop := wholeTextsUptoRow.holds Try.pinned (OpenSpec.upto wholeTextsSpec)

end Rows
end Go.Proofs.Ytdaidpomfkgbeaa
