/-
  DERIVED. GIVEN WITH THE SEED: THE CARDS: each row of YtgajgdgaghmgjaaGreatDoorRows.lean that lists a variable, with what it lists TIED to the program's text (the seventh form; the later family's looks); each row that meets fmt, with fmt's text TOLD by the authors' own Lean function (tested against real Go, not proved from fmt's source: count such statements apart). THE CARD IS WHAT COUNTS. Prove the row's statement (the work); the ties are given (YtgajgdgaghmgjaaGreatDoorTie.lean); close each card by the builder's one call (the guide's Derived/Test/ToyasCard.lean, 'card_holds'). Laid BY PROGRAM, IN A SANDBOX (cutbox-door.mjs). By AI agents, Wed Nov 11 2026. No macro, syntax, notation, axiom, sorry.
-/
import Derived.Test.YtgajgdgaghmgjaaGreatDoorRows
import GoSem.ClaimSeven
namespace Go.Proofs.YtgajgdgaghmgjaaGreatDoor
namespace Rows

/-- THE TIED CARD OF 'weirgatelaw37.RepairScrubs'. -/
def repairScrubsCard : Claim7 := { stood := { row := repairScrubsRow, standIns := [], harness := (true, "735fe399343542a1ea0cdd487521f322e390634e776358f014c72c55326dd6e6"), looks := true }, kinds := [], alts := [], laidByText := true, laidKinds := [.data], laidTests := true, laidLooks := .later }
def RepairScrubsCardSaid : Prop := Claim7.holds Tryz.pinned (.plain (OpenSpec.ofChange repairScrubsSpec)) repairScrubsCard

/-- THE SECOND FORM's CARD OF 'weirgatelaw37.RepairScrubs'. -/
def repairScrubsUptoCard : Claim7 := { stood := { row := repairScrubsUptoRow, standIns := [], harness := (true, "735fe399343542a1ea0cdd487521f322e390634e776358f014c72c55326dd6e6"), looks := true }, kinds := [], alts := [], laidByText := true, laidKinds := [.data], laidTests := true, laidLooks := .later }
def RepairScrubsUptoCardSaid : Prop := Claim7.holds Tryz.pinned (.plain (OpenSpec.upto repairScrubsSpec)) repairScrubsUptoCard
end Rows
end Go.Proofs.YtgajgdgaghmgjaaGreatDoor
