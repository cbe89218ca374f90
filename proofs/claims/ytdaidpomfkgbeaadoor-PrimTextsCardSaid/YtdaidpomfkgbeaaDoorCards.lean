/-
  DERIVED. GIVEN WITH THE SEED: THE CARDS: each row of YtdaidpomfkgbeaaDoorRows.lean that lists a variable, with what it lists TIED to the program's text (the seventh form; the later family's looks); each row that meets fmt, with fmt's text TOLD by the authors' own Lean function (tested against real Go, not proved from fmt's source: count such statements apart). THE CARD IS WHAT COUNTS. Prove the row's statement (the work); the ties are given (YtdaidpomfkgbeaaDoorTie.lean); close each card by the builder's one call (the guide's Derived/Test/ToyasCard.lean, 'card_holds'). Laid BY PROGRAM, IN A SANDBOX (cutbox-door.mjs). By AI agents, Wed Nov 11 2026. No macro, syntax, notation, axiom, sorry.
-/
import Derived.Test.YtdaidpomfkgbeaaDoorRows
import GoSem.ClaimSeven
namespace Go.Proofs.YtdaidpomfkgbeaaDoor
namespace Rows

/-- THE TIED CARD OF 'pavanelaw09.PrimTexts'. -/
def primTextsCard : Claim7 := { stood := { row := primTextsRow, standIns := [], harness := (true, "6e2335a893a11e8cef088adc36cff3c3629af8b3ddf90b36ac9593bd763d4f36"), looks := false }, kinds := [], alts := [], laidByText := true, laidKinds := [.data, .data], laidTests := true, laidLooks := .later }
def PrimTextsCardSaid : Prop := Claim7.holds Tryd.pinned (.plain (OpenSpec.ofChange primTextsSpec)) primTextsCard

/-- THE TIED CARD OF 'pavanelaw04.WriteData'. -/
def writeDataCard : Claim7 := { stood := { row := writeDataRow, standIns := [], harness := (true, "6e2335a893a11e8cef088adc36cff3c3629af8b3ddf90b36ac9593bd763d4f36"), looks := false }, kinds := [], alts := [], laidByText := true, laidKinds := [.data], laidTests := true, laidLooks := .later }
def WriteDataCardSaid : Prop := Claim7.holds Tryd.pinned (.plain (OpenSpec.ofChange writeDataSpec)) writeDataCard

/-- THE TIED CARD OF 'pavanelaw04.WriteNames'. -/
def writeNamesCard : Claim7 := { stood := { row := writeNamesRow, standIns := [], harness := (true, "6e2335a893a11e8cef088adc36cff3c3629af8b3ddf90b36ac9593bd763d4f36"), looks := false }, kinds := [], alts := [], laidByText := true, laidKinds := [.data], laidTests := true, laidLooks := .later }
def WriteNamesCardSaid : Prop := Claim7.holds Tryd.pinned (.plain (OpenSpec.ofChange writeNamesSpec)) writeNamesCard

/-- THE TIED CARD OF 'pavanelaw04.WriteApart'. -/
def writeApartCard : Claim7 := { stood := { row := writeApartRow, standIns := [], harness := (true, "6e2335a893a11e8cef088adc36cff3c3629af8b3ddf90b36ac9593bd763d4f36"), looks := false }, kinds := [], alts := [], laidByText := true, laidKinds := [.data], laidTests := true, laidLooks := .later }
def WriteApartCardSaid : Prop := Claim7.holds Tryd.pinned (.plain (OpenSpec.ofChange writeApartSpec)) writeApartCard

/-- THE TIED CARD OF 'pavanelaw04.WriteClean'. -/
def writeCleanCard : Claim7 := { stood := { row := writeCleanRow, standIns := [], harness := (true, "6e2335a893a11e8cef088adc36cff3c3629af8b3ddf90b36ac9593bd763d4f36"), looks := false }, kinds := [], alts := [], laidByText := true, laidKinds := [.data], laidTests := true, laidLooks := .later }
def WriteCleanCardSaid : Prop := Claim7.holds Tryd.pinned (.plain (OpenSpec.ofChange writeCleanSpec)) writeCleanCard

/-- THE TIED CARD OF 'pavanelaw04.WriteNests'. -/
def writeNestsCard : Claim7 := { stood := { row := writeNestsRow, standIns := [], harness := (true, "6e2335a893a11e8cef088adc36cff3c3629af8b3ddf90b36ac9593bd763d4f36"), looks := false }, kinds := [], alts := [], laidByText := true, laidKinds := [.data], laidTests := true, laidLooks := .later }
def WriteNestsCardSaid : Prop := Claim7.holds Tryd.pinned (.plain (OpenSpec.ofChange writeNestsSpec)) writeNestsCard

/-- THE TIED CARD OF 'pavanelaw04.WriteShows'. -/
def writeShowsCard : Claim7 := { stood := { row := writeShowsRow, standIns := [], harness := (true, "6e2335a893a11e8cef088adc36cff3c3629af8b3ddf90b36ac9593bd763d4f36"), looks := false }, kinds := [], alts := [], laidByText := true, laidKinds := [.data], laidTests := true, laidLooks := .later }
def WriteShowsCardSaid : Prop := Claim7.holds Tryd.pinned (.plain (OpenSpec.ofChange writeShowsSpec)) writeShowsCard

/-- THE TIED CARD OF 'pavanelaw09.PrimTells'. -/
def primTellsCard : Claim7 := { stood := { row := primTellsRow, standIns := [], harness := (true, "6e2335a893a11e8cef088adc36cff3c3629af8b3ddf90b36ac9593bd763d4f36"), looks := false }, kinds := [], alts := [], laidByText := true, laidKinds := [.data, .data], laidTests := true, laidLooks := .later }
def PrimTellsCardSaid : Prop := Claim7.holds Tryd.pinned (.plain (OpenSpec.ofChange primTellsSpec)) primTellsCard

/-- THE TIED CARD OF 'pavanelaw09.PrimGood'. -/
def primGoodCard : Claim7 := { stood := { row := primGoodRow, standIns := [], harness := (true, "6e2335a893a11e8cef088adc36cff3c3629af8b3ddf90b36ac9593bd763d4f36"), looks := false }, kinds := [], alts := [], laidByText := true, laidKinds := [.data, .data], laidTests := true, laidLooks := .later }
def PrimGoodCardSaid : Prop := Claim7.holds Tryd.pinned (.plain (OpenSpec.ofChange primGoodSpec)) primGoodCard

/-- THE TIED CARD OF 'pavanelaw09.PrimSums'. -/
def primSumsCard : Claim7 := { stood := { row := primSumsRow, standIns := [], harness := (true, "6e2335a893a11e8cef088adc36cff3c3629af8b3ddf90b36ac9593bd763d4f36"), looks := false }, kinds := [], alts := [], laidByText := true, laidKinds := [.data, .data], laidTests := true, laidLooks := .later }
def PrimSumsCardSaid : Prop := Claim7.holds Tryd.pinned (.plain (OpenSpec.ofChange primSumsSpec)) primSumsCard

/-- THE TIED CARD OF 'pavanelaw09.PrimOrder'. -/
def primOrderCard : Claim7 := { stood := { row := primOrderRow, standIns := [], harness := (true, "6e2335a893a11e8cef088adc36cff3c3629af8b3ddf90b36ac9593bd763d4f36"), looks := false }, kinds := [], alts := [], laidByText := true, laidKinds := [.data, .data], laidTests := true, laidLooks := .later }
def PrimOrderCardSaid : Prop := Claim7.holds Tryd.pinned (.plain (OpenSpec.ofChange primOrderSpec)) primOrderCard

/-- THE SECOND FORM's CARD OF 'pavanelaw09.PrimTexts'. -/
def primTextsUptoCard : Claim7 := { stood := { row := primTextsUptoRow, standIns := [], harness := (true, "6e2335a893a11e8cef088adc36cff3c3629af8b3ddf90b36ac9593bd763d4f36"), looks := false }, kinds := [], alts := [], laidByText := true, laidKinds := [.data, .data], laidTests := true, laidLooks := .later }
def PrimTextsUptoCardSaid : Prop := Claim7.holds Tryd.pinned (.plain (OpenSpec.upto primTextsSpec)) primTextsUptoCard

/-- THE SECOND FORM's CARD OF 'pavanelaw04.WriteData'. -/
def writeDataUptoCard : Claim7 := { stood := { row := writeDataUptoRow, standIns := [], harness := (true, "6e2335a893a11e8cef088adc36cff3c3629af8b3ddf90b36ac9593bd763d4f36"), looks := false }, kinds := [], alts := [], laidByText := true, laidKinds := [.data], laidTests := true, laidLooks := .later }
def WriteDataUptoCardSaid : Prop := Claim7.holds Tryd.pinned (.plain (OpenSpec.upto writeDataSpec)) writeDataUptoCard

/-- THE SECOND FORM's CARD OF 'pavanelaw04.WriteNames'. -/
def writeNamesUptoCard : Claim7 := { stood := { row := writeNamesUptoRow, standIns := [], harness := (true, "6e2335a893a11e8cef088adc36cff3c3629af8b3ddf90b36ac9593bd763d4f36"), looks := false }, kinds := [], alts := [], laidByText := true, laidKinds := [.data], laidTests := true, laidLooks := .later }
def WriteNamesUptoCardSaid : Prop := Claim7.holds Tryd.pinned (.plain (OpenSpec.upto writeNamesSpec)) writeNamesUptoCard

/-- THE SECOND FORM's CARD OF 'pavanelaw04.WriteApart'. -/
def writeApartUptoCard : Claim7 := { stood := { row := writeApartUptoRow, standIns := [], harness := (true, "6e2335a893a11e8cef088adc36cff3c3629af8b3ddf90b36ac9593bd763d4f36"), looks := false }, kinds := [], alts := [], laidByText := true, laidKinds := [.data], laidTests := true, laidLooks := .later }
def WriteApartUptoCardSaid : Prop := Claim7.holds Tryd.pinned (.plain (OpenSpec.upto writeApartSpec)) writeApartUptoCard

/-- THE SECOND FORM's CARD OF 'pavanelaw04.WriteClean'. -/
def writeCleanUptoCard : Claim7 := { stood := { row := writeCleanUptoRow, standIns := [], harness := (true, "6e2335a893a11e8cef088adc36cff3c3629af8b3ddf90b36ac9593bd763d4f36"), looks := false }, kinds := [], alts := [], laidByText := true, laidKinds := [.data], laidTests := true, laidLooks := .later }
def WriteCleanUptoCardSaid : Prop := Claim7.holds Tryd.pinned (.plain (OpenSpec.upto writeCleanSpec)) writeCleanUptoCard

/-- THE SECOND FORM's CARD OF 'pavanelaw04.WriteNests'. -/
def writeNestsUptoCard : Claim7 := { stood := { row := writeNestsUptoRow, standIns := [], harness := (true, "6e2335a893a11e8cef088adc36cff3c3629af8b3ddf90b36ac9593bd763d4f36"), looks := false }, kinds := [], alts := [], laidByText := true, laidKinds := [.data], laidTests := true, laidLooks := .later }
def WriteNestsUptoCardSaid : Prop := Claim7.holds Tryd.pinned (.plain (OpenSpec.upto writeNestsSpec)) writeNestsUptoCard

/-- THE SECOND FORM's CARD OF 'pavanelaw04.WriteShows'. -/
def writeShowsUptoCard : Claim7 := { stood := { row := writeShowsUptoRow, standIns := [], harness := (true, "6e2335a893a11e8cef088adc36cff3c3629af8b3ddf90b36ac9593bd763d4f36"), looks := false }, kinds := [], alts := [], laidByText := true, laidKinds := [.data], laidTests := true, laidLooks := .later }
def WriteShowsUptoCardSaid : Prop := Claim7.holds Tryd.pinned (.plain (OpenSpec.upto writeShowsSpec)) writeShowsUptoCard

/-- THE SECOND FORM's CARD OF 'pavanelaw09.PrimTells'. -/
def primTellsUptoCard : Claim7 := { stood := { row := primTellsUptoRow, standIns := [], harness := (true, "6e2335a893a11e8cef088adc36cff3c3629af8b3ddf90b36ac9593bd763d4f36"), looks := false }, kinds := [], alts := [], laidByText := true, laidKinds := [.data, .data], laidTests := true, laidLooks := .later }
def PrimTellsUptoCardSaid : Prop := Claim7.holds Tryd.pinned (.plain (OpenSpec.upto primTellsSpec)) primTellsUptoCard

/-- THE SECOND FORM's CARD OF 'pavanelaw09.PrimGood'. -/
def primGoodUptoCard : Claim7 := { stood := { row := primGoodUptoRow, standIns := [], harness := (true, "6e2335a893a11e8cef088adc36cff3c3629af8b3ddf90b36ac9593bd763d4f36"), looks := false }, kinds := [], alts := [], laidByText := true, laidKinds := [.data, .data], laidTests := true, laidLooks := .later }
def PrimGoodUptoCardSaid : Prop := Claim7.holds Tryd.pinned (.plain (OpenSpec.upto primGoodSpec)) primGoodUptoCard

/-- THE SECOND FORM's CARD OF 'pavanelaw09.PrimSums'. -/
def primSumsUptoCard : Claim7 := { stood := { row := primSumsUptoRow, standIns := [], harness := (true, "6e2335a893a11e8cef088adc36cff3c3629af8b3ddf90b36ac9593bd763d4f36"), looks := false }, kinds := [], alts := [], laidByText := true, laidKinds := [.data, .data], laidTests := true, laidLooks := .later }
def PrimSumsUptoCardSaid : Prop := Claim7.holds Tryd.pinned (.plain (OpenSpec.upto primSumsSpec)) primSumsUptoCard

/-- THE SECOND FORM's CARD OF 'pavanelaw09.PrimOrder'. -/
def primOrderUptoCard : Claim7 := { stood := { row := primOrderUptoRow, standIns := [], harness := (true, "6e2335a893a11e8cef088adc36cff3c3629af8b3ddf90b36ac9593bd763d4f36"), looks := false }, kinds := [], alts := [], laidByText := true, laidKinds := [.data, .data], laidTests := true, laidLooks := .later }
def PrimOrderUptoCardSaid : Prop := Claim7.holds Tryd.pinned (.plain (OpenSpec.upto primOrderSpec)) primOrderUptoCard
end Rows
end Go.Proofs.YtdaidpomfkgbeaaDoor
