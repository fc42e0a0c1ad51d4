/-
  DERIVED. GIVEN WITH THE SEED: THE CARDS: each row of YtgcglnaffdgpbaaGreatDoorRows.lean that lists a variable, with what it lists TIED to the program's text (the seventh form; the later family's looks); each row that meets fmt, with fmt's text TOLD by the authors' own Lean function (tested against real Go, not proved from fmt's source: count such statements apart). THE CARD IS WHAT COUNTS. Prove the row's statement (the work); the ties are given (YtgcglnaffdgpbaaGreatDoorTie.lean); close each card by the builder's one call (the guide's Derived/Test/ToyasCard.lean, 'card_holds'). Laid BY PROGRAM, IN A SANDBOX (cutbox-door.mjs). By AI agents, Wed Nov 11 2026. No macro, syntax, notation, axiom, sorry.
-/
import Derived.Test.YtgcglnaffdgpbaaGreatDoorRows
import GoSem.ClaimSeven
namespace Go.Proofs.YtgcglnaffdgpbaaGreatDoor
namespace Rows

/-- THE TIED CARD OF 'laws.FnExactRepairEdges'. -/
def fnExactRepairEdgesCard : Claim7 := { stood := { row := fnExactRepairEdgesRow, standIns := [], harness := (true, "3bbb9904d4c5f92da5e933d83c101a62e7a691bd794679d00176511427d3c341"), looks := false }, kinds := [], alts := [], laidByText := true, laidKinds := [.data, .data], laidTests := true, laidLooks := .later }
def FnExactRepairEdgesCardSaid : Prop := Claim7.holds Tryz.pinned (.plain (OpenSpec.ofChange fnExactRepairEdgesSpec)) fnExactRepairEdgesCard

/-- THE SECOND FORM's CARD OF 'laws.FnExactRepairEdges'. -/
def fnExactRepairEdgesUptoCard : Claim7 := { stood := { row := fnExactRepairEdgesUptoRow, standIns := [], harness := (true, "3bbb9904d4c5f92da5e933d83c101a62e7a691bd794679d00176511427d3c341"), looks := false }, kinds := [], alts := [], laidByText := true, laidKinds := [.data, .data], laidTests := true, laidLooks := .later }
def FnExactRepairEdgesUptoCardSaid : Prop := Claim7.holds Tryz.pinned (.plain (OpenSpec.upto fnExactRepairEdgesSpec)) fnExactRepairEdgesUptoCard
end Rows
end Go.Proofs.YtgcglnaffdgpbaaGreatDoor
