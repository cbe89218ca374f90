/-
  DERIVED. GIVEN WITH THE SEED: THE PROGRAM's TIES (one call each: nine closed facts by the kernel) AND EACH ROW's TIE, after the 31st guide's Derived/Test/Toyas{Tie, Card}.lean. No idea stands in it: it is a product of the set-up. Laid BY PROGRAM, IN A SANDBOX (cutbox-door.mjs). By AI agents, Wed Nov 11 2026. No macro, syntax, notation, axiom, sorry.
-/
import Derived.Test.YtmclabehpfpnnaaGreatDoorRows
import Derived.LaidByTextLater
import Derived.SevenTiedAt
import Derived.LaidSub
import Derived.LaidOnce
namespace Go.Proofs.YtmclabehpfpnnaaGreatDoor
open Go
set_option maxRecDepth 100000
theorem seatTie1 : Tryz.prog.laidByTextLater [("pavane/expand.names", Rows.laid_pavane_expand_names), ("pavane/expand.arities", Rows.laid_pavane_expand_arities), ("pavane/prim.impure", Rows.laid_pavane_prim_impure)] [.data, .data, .data] true :=
  Program.laidByTextLater_by_one 24 8 40 (by kernel_rfl) (by kernel_rfl) (by kernel_rfl) (by kernel_rfl) (by kernel_rfl) (by kernel_rfl) (fun _ _ => by kernel_rfl)
theorem noOwnUnsafe : Tryz.pinned.checked.prog.headLifts.contains "ownunsafe" = false := by kernel_rfl
theorem tie : Tryz.prog.laidByTextLater [("pavane/expand.names", Rows.laid_pavane_expand_names), ("pavane/expand.arities", Rows.laid_pavane_expand_arities), ("pavane/prim.impure", Rows.laid_pavane_prim_impure)] [.data, .data, .data] true :=
  Program.laidByTextLater.sub seatTie1 ["pavane/expand.names", "pavane/expand.arities", "pavane/prim.impure"] (by kernel_rfl) (by kernel_rfl)
theorem primDoes_row_tie : Rows.primDoesRow.laidByTextAt .later Tryz.pinned [.data, .data, .data] true :=
  OpenClaim.laidByTextAt_later rfl rfl tie noOwnUnsafe
theorem primDoesUpto_row_tie : Rows.primDoesUptoRow.laidByTextAt .later Tryz.pinned [.data, .data, .data] true :=
  OpenClaim.laidByTextAt_later rfl rfl tie noOwnUnsafe
end Go.Proofs.YtmclabehpfpnnaaGreatDoor
