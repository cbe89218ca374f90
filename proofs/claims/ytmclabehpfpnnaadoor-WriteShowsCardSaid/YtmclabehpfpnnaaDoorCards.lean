/-
  DERIVED. GIVEN WITH THE SEED: THE CARDS: each row of YtmclabehpfpnnaaDoorRows.lean that lists a variable, with what it lists TIED to the program's text (the seventh form; the later family's looks); each row that meets fmt, with fmt's text TOLD by the authors' own Lean function (tested against real Go, not proved from fmt's source: count such statements apart). THE CARD IS WHAT COUNTS. Prove the row's statement (the work); the ties are given (YtmclabehpfpnnaaDoorTie.lean); close each card by the builder's one call (the guide's Derived/Test/ToyasCard.lean, 'card_holds'). Laid BY PROGRAM, IN A SANDBOX (cutbox-door.mjs). By AI agents, Wed Nov 11 2026. No macro, syntax, notation, axiom, sorry.
-/
import Derived.Test.YtmclabehpfpnnaaDoorRows
import GoSem.ClaimSeven
namespace Go.Proofs.YtmclabehpfpnnaaDoor
namespace Rows

/-- THE TIED CARD OF 'pavanelaw04.WriteData'. -/
def writeDataCard : Claim7 := { stood := { row := writeDataRow, standIns := [], harness := (true, "2820c0768679e4f5082c81cbee85ccf4f218716a1352659e7e10b8fc4dd04a4a"), looks := false }, kinds := [], alts := [], laidByText := true, laidKinds := [.data], laidTests := true, laidLooks := .later }
def WriteDataCardSaid : Prop := Claim7.holds Tryd.pinned (.plain (OpenSpec.ofChange writeDataSpec)) writeDataCard

/-- THE TIED CARD OF 'pavanelaw04.WriteNames'. -/
def writeNamesCard : Claim7 := { stood := { row := writeNamesRow, standIns := [], harness := (true, "2820c0768679e4f5082c81cbee85ccf4f218716a1352659e7e10b8fc4dd04a4a"), looks := false }, kinds := [], alts := [], laidByText := true, laidKinds := [.data], laidTests := true, laidLooks := .later }
def WriteNamesCardSaid : Prop := Claim7.holds Tryd.pinned (.plain (OpenSpec.ofChange writeNamesSpec)) writeNamesCard

/-- THE TIED CARD OF 'pavanelaw04.WriteApart'. -/
def writeApartCard : Claim7 := { stood := { row := writeApartRow, standIns := [], harness := (true, "2820c0768679e4f5082c81cbee85ccf4f218716a1352659e7e10b8fc4dd04a4a"), looks := false }, kinds := [], alts := [], laidByText := true, laidKinds := [.data], laidTests := true, laidLooks := .later }
def WriteApartCardSaid : Prop := Claim7.holds Tryd.pinned (.plain (OpenSpec.ofChange writeApartSpec)) writeApartCard

/-- THE TIED CARD OF 'pavanelaw04.WriteClean'. -/
def writeCleanCard : Claim7 := { stood := { row := writeCleanRow, standIns := [], harness := (true, "2820c0768679e4f5082c81cbee85ccf4f218716a1352659e7e10b8fc4dd04a4a"), looks := false }, kinds := [], alts := [], laidByText := true, laidKinds := [.data], laidTests := true, laidLooks := .later }
def WriteCleanCardSaid : Prop := Claim7.holds Tryd.pinned (.plain (OpenSpec.ofChange writeCleanSpec)) writeCleanCard

/-- THE TIED CARD OF 'pavanelaw04.WriteNests'. -/
def writeNestsCard : Claim7 := { stood := { row := writeNestsRow, standIns := [], harness := (true, "2820c0768679e4f5082c81cbee85ccf4f218716a1352659e7e10b8fc4dd04a4a"), looks := false }, kinds := [], alts := [], laidByText := true, laidKinds := [.data], laidTests := true, laidLooks := .later }
def WriteNestsCardSaid : Prop := Claim7.holds Tryd.pinned (.plain (OpenSpec.ofChange writeNestsSpec)) writeNestsCard

/-- THE TIED CARD OF 'pavanelaw04.WriteShows'. -/
def writeShowsCard : Claim7 := { stood := { row := writeShowsRow, standIns := [], harness := (true, "2820c0768679e4f5082c81cbee85ccf4f218716a1352659e7e10b8fc4dd04a4a"), looks := false }, kinds := [], alts := [], laidByText := true, laidKinds := [.data], laidTests := true, laidLooks := .later }
def WriteShowsCardSaid : Prop := Claim7.holds Tryd.pinned (.plain (OpenSpec.ofChange writeShowsSpec)) writeShowsCard

/-- THE TIED CARD OF 'pavanelaw09.PrimGood'. -/
def primGoodCard : Claim7 := { stood := { row := primGoodRow, standIns := [], harness := (true, "2820c0768679e4f5082c81cbee85ccf4f218716a1352659e7e10b8fc4dd04a4a"), looks := false }, kinds := [], alts := [], laidByText := true, laidKinds := [.data, .data], laidTests := true, laidLooks := .later }
def PrimGoodCardSaid : Prop := Claim7.holds Tryd.pinned (.plain (OpenSpec.ofChange primGoodSpec)) primGoodCard

/-- THE SECOND FORM's CARD OF 'pavanelaw04.WriteData'. -/
def writeDataUptoCard : Claim7 := { stood := { row := writeDataUptoRow, standIns := [], harness := (true, "2820c0768679e4f5082c81cbee85ccf4f218716a1352659e7e10b8fc4dd04a4a"), looks := false }, kinds := [], alts := [], laidByText := true, laidKinds := [.data], laidTests := true, laidLooks := .later }
def WriteDataUptoCardSaid : Prop := Claim7.holds Tryd.pinned (.plain (OpenSpec.upto writeDataSpec)) writeDataUptoCard

/-- THE SECOND FORM's CARD OF 'pavanelaw04.WriteNames'. -/
def writeNamesUptoCard : Claim7 := { stood := { row := writeNamesUptoRow, standIns := [], harness := (true, "2820c0768679e4f5082c81cbee85ccf4f218716a1352659e7e10b8fc4dd04a4a"), looks := false }, kinds := [], alts := [], laidByText := true, laidKinds := [.data], laidTests := true, laidLooks := .later }
def WriteNamesUptoCardSaid : Prop := Claim7.holds Tryd.pinned (.plain (OpenSpec.upto writeNamesSpec)) writeNamesUptoCard

/-- THE SECOND FORM's CARD OF 'pavanelaw04.WriteApart'. -/
def writeApartUptoCard : Claim7 := { stood := { row := writeApartUptoRow, standIns := [], harness := (true, "2820c0768679e4f5082c81cbee85ccf4f218716a1352659e7e10b8fc4dd04a4a"), looks := false }, kinds := [], alts := [], laidByText := true, laidKinds := [.data], laidTests := true, laidLooks := .later }
def WriteApartUptoCardSaid : Prop := Claim7.holds Tryd.pinned (.plain (OpenSpec.upto writeApartSpec)) writeApartUptoCard

/-- THE SECOND FORM's CARD OF 'pavanelaw04.WriteClean'. -/
def writeCleanUptoCard : Claim7 := { stood := { row := writeCleanUptoRow, standIns := [], harness := (true, "2820c0768679e4f5082c81cbee85ccf4f218716a1352659e7e10b8fc4dd04a4a"), looks := false }, kinds := [], alts := [], laidByText := true, laidKinds := [.data], laidTests := true, laidLooks := .later }
def WriteCleanUptoCardSaid : Prop := Claim7.holds Tryd.pinned (.plain (OpenSpec.upto writeCleanSpec)) writeCleanUptoCard

/-- THE SECOND FORM's CARD OF 'pavanelaw04.WriteNests'. -/
def writeNestsUptoCard : Claim7 := { stood := { row := writeNestsUptoRow, standIns := [], harness := (true, "2820c0768679e4f5082c81cbee85ccf4f218716a1352659e7e10b8fc4dd04a4a"), looks := false }, kinds := [], alts := [], laidByText := true, laidKinds := [.data], laidTests := true, laidLooks := .later }
def WriteNestsUptoCardSaid : Prop := Claim7.holds Tryd.pinned (.plain (OpenSpec.upto writeNestsSpec)) writeNestsUptoCard

/-- THE SECOND FORM's CARD OF 'pavanelaw04.WriteShows'. -/
def writeShowsUptoCard : Claim7 := { stood := { row := writeShowsUptoRow, standIns := [], harness := (true, "2820c0768679e4f5082c81cbee85ccf4f218716a1352659e7e10b8fc4dd04a4a"), looks := false }, kinds := [], alts := [], laidByText := true, laidKinds := [.data], laidTests := true, laidLooks := .later }
def WriteShowsUptoCardSaid : Prop := Claim7.holds Tryd.pinned (.plain (OpenSpec.upto writeShowsSpec)) writeShowsUptoCard

/-- THE SECOND FORM's CARD OF 'pavanelaw09.PrimGood'. -/
def primGoodUptoCard : Claim7 := { stood := { row := primGoodUptoRow, standIns := [], harness := (true, "2820c0768679e4f5082c81cbee85ccf4f218716a1352659e7e10b8fc4dd04a4a"), looks := false }, kinds := [], alts := [], laidByText := true, laidKinds := [.data, .data], laidTests := true, laidLooks := .later }
def PrimGoodUptoCardSaid : Prop := Claim7.holds Tryd.pinned (.plain (OpenSpec.upto primGoodSpec)) primGoodUptoCard
end Rows
end Go.Proofs.YtmclabehpfpnnaaDoor
