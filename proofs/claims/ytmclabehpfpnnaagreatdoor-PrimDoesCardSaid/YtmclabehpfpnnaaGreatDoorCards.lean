/-
  DERIVED. GIVEN WITH THE SEED: THE CARDS: each row of YtmclabehpfpnnaaGreatDoorRows.lean that lists a variable, with what it lists TIED to the program's text (the seventh form; the later family's looks); each row that meets fmt, with fmt's text TOLD by the authors' own Lean function (tested against real Go, not proved from fmt's source: count such statements apart). THE CARD IS WHAT COUNTS. Prove the row's statement (the work); the ties are given (YtmclabehpfpnnaaGreatDoorTie.lean); close each card by the builder's one call (the guide's Derived/Test/ToyasCard.lean, 'card_holds'). Laid BY PROGRAM, IN A SANDBOX (cutbox-door.mjs). By AI agents, Wed Nov 11 2026. No macro, syntax, notation, axiom, sorry.
-/
import Derived.Test.YtmclabehpfpnnaaGreatDoorRows
import GoSem.ClaimSeven
namespace Go.Proofs.YtmclabehpfpnnaaGreatDoor
namespace Rows

/-- THE TIED CARD OF 'pavanelaw09.PrimDoes'. -/
def primDoesCard : Claim7 := { stood := { row := primDoesRow, standIns := [], harness := (true, "09ad390372aac7b9dca99b0e42998c31d96bb61cda40cba2d7d18ff27c92d629"), looks := false }, kinds := [], alts := [], laidByText := true, laidKinds := [.data, .data, .data], laidTests := true, laidLooks := .later }
def PrimDoesCardSaid : Prop := Claim7.holds Tryz.pinned (.plain (OpenSpec.ofChange primDoesSpec)) primDoesCard

/-- THE SECOND FORM's CARD OF 'pavanelaw09.PrimDoes'. -/
def primDoesUptoCard : Claim7 := { stood := { row := primDoesUptoRow, standIns := [], harness := (true, "09ad390372aac7b9dca99b0e42998c31d96bb61cda40cba2d7d18ff27c92d629"), looks := false }, kinds := [], alts := [], laidByText := true, laidKinds := [.data, .data, .data], laidTests := true, laidLooks := .later }
def PrimDoesUptoCardSaid : Prop := Claim7.holds Tryz.pinned (.plain (OpenSpec.upto primDoesSpec)) primDoesUptoCard
end Rows
end Go.Proofs.YtmclabehpfpnnaaGreatDoor
