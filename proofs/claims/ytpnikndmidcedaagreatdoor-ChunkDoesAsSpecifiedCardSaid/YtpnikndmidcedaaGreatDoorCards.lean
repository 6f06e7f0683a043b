/-
  DERIVED. GIVEN WITH THE SEED: THE CARDS: each row of YtpnikndmidcedaaGreatDoorRows.lean that lists a variable, with what it lists TIED to the program's text (the seventh form; the later family's looks); each row that meets fmt, with fmt's text TOLD by the authors' own Lean function (tested against real Go, not proved from fmt's source: count such statements apart). THE CARD IS WHAT COUNTS. Prove the row's statement (the work); the ties are given (YtpnikndmidcedaaGreatDoorTie.lean); close each card by the builder's one call (the guide's Derived/Test/ToyasCard.lean, 'card_holds'). Laid BY PROGRAM, IN A SANDBOX (cutbox-door.mjs). By AI agents, Wed Nov 11 2026. No macro, syntax, notation, axiom, sorry.
-/
import Derived.Test.YtpnikndmidcedaaGreatDoorRows
import GoSem.ClaimSeven
namespace Go.Proofs.YtpnikndmidcedaaGreatDoor
namespace Rows

/-- THE TIED CARD OF 'weirgatelaw14.ChunkDoesAsSpecified'. -/
def chunkDoesAsSpecifiedCard : Claim7 := { stood := { row := chunkDoesAsSpecifiedRow, standIns := [], harness := (true, "b7f6d84c0be91c788e5e5c4e2b3f43ec2c9057d9da4f9b2bea9144cbbbb7b5fa"), looks := true }, kinds := [], alts := [], laidByText := true, laidKinds := [.data], laidTests := true, laidLooks := .later }
def ChunkDoesAsSpecifiedCardSaid : Prop := Claim7.holds Tryz.pinned (.plain (OpenSpec.ofChange chunkDoesAsSpecifiedSpec)) chunkDoesAsSpecifiedCard

/-- THE SECOND FORM's CARD OF 'weirgatelaw14.ChunkDoesAsSpecified'. -/
def chunkDoesAsSpecifiedUptoCard : Claim7 := { stood := { row := chunkDoesAsSpecifiedUptoRow, standIns := [], harness := (true, "b7f6d84c0be91c788e5e5c4e2b3f43ec2c9057d9da4f9b2bea9144cbbbb7b5fa"), looks := true }, kinds := [], alts := [], laidByText := true, laidKinds := [.data], laidTests := true, laidLooks := .later }
def ChunkDoesAsSpecifiedUptoCardSaid : Prop := Claim7.holds Tryz.pinned (.plain (OpenSpec.upto chunkDoesAsSpecifiedSpec)) chunkDoesAsSpecifiedUptoCard
end Rows
end Go.Proofs.YtpnikndmidcedaaGreatDoor
