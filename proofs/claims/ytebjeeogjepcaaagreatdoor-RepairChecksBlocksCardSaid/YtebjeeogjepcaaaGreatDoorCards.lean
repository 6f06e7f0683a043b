/-
  DERIVED. GIVEN WITH THE SEED: THE CARDS: each row of YtebjeeogjepcaaaGreatDoorRows.lean that lists a variable, with what it lists TIED to the program's text (the seventh form; the later family's looks); each row that meets fmt, with fmt's text TOLD by the authors' own Lean function (tested against real Go, not proved from fmt's source: count such statements apart). THE CARD IS WHAT COUNTS. Prove the row's statement (the work); the ties are given (YtebjeeogjepcaaaGreatDoorTie.lean); close each card by the builder's one call (the guide's Derived/Test/ToyasCard.lean, 'card_holds'). Laid BY PROGRAM, IN A SANDBOX (cutbox-door.mjs). By AI agents, Wed Nov 11 2026. No macro, syntax, notation, axiom, sorry.
-/
import Derived.Test.YtebjeeogjepcaaaGreatDoorRows
import GoSem.ClaimSeven
namespace Go.Proofs.YtebjeeogjepcaaaGreatDoor
namespace Rows

/-- THE TIED CARD OF 'weirgatelaw37.RepairFindsAsSpecified'. -/
def repairFindsAsSpecifiedCard : Claim7 := { stood := { row := repairFindsAsSpecifiedRow, standIns := [], harness := (true, "0b2f6ad84bf070f40bdb7e71ec86fd432f5077cca069f5d2df043c18a9208170"), looks := true }, kinds := [], alts := [], laidByText := true, laidKinds := [.data, .data], laidTests := true, laidLooks := .later }
def RepairFindsAsSpecifiedCardSaid : Prop := Claim7.holds Tryz.pinned (.plain (OpenSpec.ofChange repairFindsAsSpecifiedSpec)) repairFindsAsSpecifiedCard

/-- THE TIED CARD OF 'weirgatelaw37.RepairAsksAsSpecified'. -/
def repairAsksAsSpecifiedCard : Claim7 := { stood := { row := repairAsksAsSpecifiedRow, standIns := [], harness := (true, "0b2f6ad84bf070f40bdb7e71ec86fd432f5077cca069f5d2df043c18a9208170"), looks := true }, kinds := [], alts := [], laidByText := true, laidKinds := [.data], laidTests := true, laidLooks := .later }
def RepairAsksAsSpecifiedCardSaid : Prop := Claim7.holds Tryz.pinned (.plain (OpenSpec.ofChange repairAsksAsSpecifiedSpec)) repairAsksAsSpecifiedCard

/-- THE TIED CARD OF 'weirgatelaw37.RepairPatchesAsSpecified'. -/
def repairPatchesAsSpecifiedCard : Claim7 := { stood := { row := repairPatchesAsSpecifiedRow, standIns := [], harness := (true, "0b2f6ad84bf070f40bdb7e71ec86fd432f5077cca069f5d2df043c18a9208170"), looks := true }, kinds := [], alts := [], laidByText := true, laidKinds := [.data, .data], laidTests := true, laidLooks := .later }
def RepairPatchesAsSpecifiedCardSaid : Prop := Claim7.holds Tryz.pinned (.plain (OpenSpec.ofChange repairPatchesAsSpecifiedSpec)) repairPatchesAsSpecifiedCard

/-- THE TIED CARD OF 'weirgatelaw37.RepairPatches'. -/
def repairPatchesCard : Claim7 := { stood := { row := repairPatchesRow, standIns := [], harness := (true, "0b2f6ad84bf070f40bdb7e71ec86fd432f5077cca069f5d2df043c18a9208170"), looks := true }, kinds := [], alts := [], laidByText := true, laidKinds := [.data], laidTests := true, laidLooks := .later }
def RepairPatchesCardSaid : Prop := Claim7.holds Tryz.pinned (.plain (OpenSpec.ofChange repairPatchesSpec)) repairPatchesCard

/-- THE TIED CARD OF 'weirgatelaw37.RepairMakesAsSpecified'. -/
def repairMakesAsSpecifiedCard : Claim7 := { stood := { row := repairMakesAsSpecifiedRow, standIns := [], harness := (true, "0b2f6ad84bf070f40bdb7e71ec86fd432f5077cca069f5d2df043c18a9208170"), looks := true }, kinds := [], alts := [], laidByText := true, laidKinds := [.data, .data], laidTests := true, laidLooks := .later }
def RepairMakesAsSpecifiedCardSaid : Prop := Claim7.holds Tryz.pinned (.plain (OpenSpec.ofChange repairMakesAsSpecifiedSpec)) repairMakesAsSpecifiedCard

/-- THE TIED CARD OF 'weirgatelaw37.RepairFindsDamage'. -/
def repairFindsDamageCard : Claim7 := { stood := { row := repairFindsDamageRow, standIns := [], harness := (true, "0b2f6ad84bf070f40bdb7e71ec86fd432f5077cca069f5d2df043c18a9208170"), looks := true }, kinds := [], alts := [], laidByText := true, laidKinds := [.data], laidTests := true, laidLooks := .later }
def RepairFindsDamageCardSaid : Prop := Claim7.holds Tryz.pinned (.plain (OpenSpec.ofChange repairFindsDamageSpec)) repairFindsDamageCard

/-- THE TIED CARD OF 'weirgatelaw37.RepairAsksLittle'. -/
def repairAsksLittleCard : Claim7 := { stood := { row := repairAsksLittleRow, standIns := [], harness := (true, "0b2f6ad84bf070f40bdb7e71ec86fd432f5077cca069f5d2df043c18a9208170"), looks := true }, kinds := [], alts := [], laidByText := true, laidKinds := [.data], laidTests := true, laidLooks := .later }
def RepairAsksLittleCardSaid : Prop := Claim7.holds Tryz.pinned (.plain (OpenSpec.ofChange repairAsksLittleSpec)) repairAsksLittleCard

/-- THE TIED CARD OF 'weirgatelaw37.RepairChecksBlocks'. -/
def repairChecksBlocksCard : Claim7 := { stood := { row := repairChecksBlocksRow, standIns := [], harness := (true, "0b2f6ad84bf070f40bdb7e71ec86fd432f5077cca069f5d2df043c18a9208170"), looks := true }, kinds := [], alts := [], laidByText := true, laidKinds := [.data], laidTests := true, laidLooks := .later }
def RepairChecksBlocksCardSaid : Prop := Claim7.holds Tryz.pinned (.plain (OpenSpec.ofChange repairChecksBlocksSpec)) repairChecksBlocksCard

/-- THE TIED CARD OF 'weirgatelaw37.RepairScrubs'. -/
def repairScrubsCard : Claim7 := { stood := { row := repairScrubsRow, standIns := [], harness := (true, "0b2f6ad84bf070f40bdb7e71ec86fd432f5077cca069f5d2df043c18a9208170"), looks := true }, kinds := [], alts := [], laidByText := true, laidKinds := [.data], laidTests := true, laidLooks := .later }
def RepairScrubsCardSaid : Prop := Claim7.holds Tryz.pinned (.plain (OpenSpec.ofChange repairScrubsSpec)) repairScrubsCard

/-- THE SECOND FORM's CARD OF 'weirgatelaw37.RepairFindsAsSpecified'. -/
def repairFindsAsSpecifiedUptoCard : Claim7 := { stood := { row := repairFindsAsSpecifiedUptoRow, standIns := [], harness := (true, "0b2f6ad84bf070f40bdb7e71ec86fd432f5077cca069f5d2df043c18a9208170"), looks := true }, kinds := [], alts := [], laidByText := true, laidKinds := [.data, .data], laidTests := true, laidLooks := .later }
def RepairFindsAsSpecifiedUptoCardSaid : Prop := Claim7.holds Tryz.pinned (.plain (OpenSpec.upto repairFindsAsSpecifiedSpec)) repairFindsAsSpecifiedUptoCard

/-- THE SECOND FORM's CARD OF 'weirgatelaw37.RepairAsksAsSpecified'. -/
def repairAsksAsSpecifiedUptoCard : Claim7 := { stood := { row := repairAsksAsSpecifiedUptoRow, standIns := [], harness := (true, "0b2f6ad84bf070f40bdb7e71ec86fd432f5077cca069f5d2df043c18a9208170"), looks := true }, kinds := [], alts := [], laidByText := true, laidKinds := [.data], laidTests := true, laidLooks := .later }
def RepairAsksAsSpecifiedUptoCardSaid : Prop := Claim7.holds Tryz.pinned (.plain (OpenSpec.upto repairAsksAsSpecifiedSpec)) repairAsksAsSpecifiedUptoCard

/-- THE SECOND FORM's CARD OF 'weirgatelaw37.RepairPatchesAsSpecified'. -/
def repairPatchesAsSpecifiedUptoCard : Claim7 := { stood := { row := repairPatchesAsSpecifiedUptoRow, standIns := [], harness := (true, "0b2f6ad84bf070f40bdb7e71ec86fd432f5077cca069f5d2df043c18a9208170"), looks := true }, kinds := [], alts := [], laidByText := true, laidKinds := [.data, .data], laidTests := true, laidLooks := .later }
def RepairPatchesAsSpecifiedUptoCardSaid : Prop := Claim7.holds Tryz.pinned (.plain (OpenSpec.upto repairPatchesAsSpecifiedSpec)) repairPatchesAsSpecifiedUptoCard

/-- THE SECOND FORM's CARD OF 'weirgatelaw37.RepairPatches'. -/
def repairPatchesUptoCard : Claim7 := { stood := { row := repairPatchesUptoRow, standIns := [], harness := (true, "0b2f6ad84bf070f40bdb7e71ec86fd432f5077cca069f5d2df043c18a9208170"), looks := true }, kinds := [], alts := [], laidByText := true, laidKinds := [.data], laidTests := true, laidLooks := .later }
def RepairPatchesUptoCardSaid : Prop := Claim7.holds Tryz.pinned (.plain (OpenSpec.upto repairPatchesSpec)) repairPatchesUptoCard

/-- THE SECOND FORM's CARD OF 'weirgatelaw37.RepairMakesAsSpecified'. -/
def repairMakesAsSpecifiedUptoCard : Claim7 := { stood := { row := repairMakesAsSpecifiedUptoRow, standIns := [], harness := (true, "0b2f6ad84bf070f40bdb7e71ec86fd432f5077cca069f5d2df043c18a9208170"), looks := true }, kinds := [], alts := [], laidByText := true, laidKinds := [.data, .data], laidTests := true, laidLooks := .later }
def RepairMakesAsSpecifiedUptoCardSaid : Prop := Claim7.holds Tryz.pinned (.plain (OpenSpec.upto repairMakesAsSpecifiedSpec)) repairMakesAsSpecifiedUptoCard

/-- THE SECOND FORM's CARD OF 'weirgatelaw37.RepairFindsDamage'. -/
def repairFindsDamageUptoCard : Claim7 := { stood := { row := repairFindsDamageUptoRow, standIns := [], harness := (true, "0b2f6ad84bf070f40bdb7e71ec86fd432f5077cca069f5d2df043c18a9208170"), looks := true }, kinds := [], alts := [], laidByText := true, laidKinds := [.data], laidTests := true, laidLooks := .later }
def RepairFindsDamageUptoCardSaid : Prop := Claim7.holds Tryz.pinned (.plain (OpenSpec.upto repairFindsDamageSpec)) repairFindsDamageUptoCard

/-- THE SECOND FORM's CARD OF 'weirgatelaw37.RepairAsksLittle'. -/
def repairAsksLittleUptoCard : Claim7 := { stood := { row := repairAsksLittleUptoRow, standIns := [], harness := (true, "0b2f6ad84bf070f40bdb7e71ec86fd432f5077cca069f5d2df043c18a9208170"), looks := true }, kinds := [], alts := [], laidByText := true, laidKinds := [.data], laidTests := true, laidLooks := .later }
def RepairAsksLittleUptoCardSaid : Prop := Claim7.holds Tryz.pinned (.plain (OpenSpec.upto repairAsksLittleSpec)) repairAsksLittleUptoCard

/-- THE SECOND FORM's CARD OF 'weirgatelaw37.RepairChecksBlocks'. -/
def repairChecksBlocksUptoCard : Claim7 := { stood := { row := repairChecksBlocksUptoRow, standIns := [], harness := (true, "0b2f6ad84bf070f40bdb7e71ec86fd432f5077cca069f5d2df043c18a9208170"), looks := true }, kinds := [], alts := [], laidByText := true, laidKinds := [.data], laidTests := true, laidLooks := .later }
def RepairChecksBlocksUptoCardSaid : Prop := Claim7.holds Tryz.pinned (.plain (OpenSpec.upto repairChecksBlocksSpec)) repairChecksBlocksUptoCard

/-- THE SECOND FORM's CARD OF 'weirgatelaw37.RepairScrubs'. -/
def repairScrubsUptoCard : Claim7 := { stood := { row := repairScrubsUptoRow, standIns := [], harness := (true, "0b2f6ad84bf070f40bdb7e71ec86fd432f5077cca069f5d2df043c18a9208170"), looks := true }, kinds := [], alts := [], laidByText := true, laidKinds := [.data], laidTests := true, laidLooks := .later }
def RepairScrubsUptoCardSaid : Prop := Claim7.holds Tryz.pinned (.plain (OpenSpec.upto repairScrubsSpec)) repairScrubsUptoCard
end Rows
end Go.Proofs.YtebjeeogjepcaaaGreatDoor
