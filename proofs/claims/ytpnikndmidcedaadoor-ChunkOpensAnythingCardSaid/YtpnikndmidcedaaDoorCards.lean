/-
  DERIVED. GIVEN WITH THE SEED: THE CARDS: each row of YtpnikndmidcedaaDoorRows.lean that lists a variable, with what it lists TIED to the program's text (the seventh form; the later family's looks); each row that meets fmt, with fmt's text TOLD by the authors' own Lean function (tested against real Go, not proved from fmt's source: count such statements apart). THE CARD IS WHAT COUNTS. Prove the row's statement (the work); the ties are given (YtpnikndmidcedaaDoorTie.lean); close each card by the builder's one call (the guide's Derived/Test/ToyasCard.lean, 'card_holds'). Laid BY PROGRAM, IN A SANDBOX (cutbox-door.mjs). By AI agents, Wed Nov 11 2026. No macro, syntax, notation, axiom, sorry.
-/
import Derived.Test.YtpnikndmidcedaaDoorRows
import GoSem.ClaimSeven
namespace Go.Proofs.YtpnikndmidcedaaDoor
namespace Rows

/-- THE TIED CARD OF 'weirgatelaw14.ChunkOpensAnything'. -/
def chunkOpensAnythingCard : Claim7 := { stood := { row := chunkOpensAnythingRow, standIns := [], harness := (true, "df59007bc068d6163b9737578afc6930cfaceb5e63dc0103a1c90dc3bbae6e06"), looks := true }, kinds := [], alts := [], laidByText := true, laidKinds := [.data], laidTests := true, laidLooks := .later }
def ChunkOpensAnythingCardSaid : Prop := Claim7.holds Tryd.pinned (.plain (OpenSpec.ofChange chunkOpensAnythingSpec)) chunkOpensAnythingCard

/-- THE SECOND FORM's CARD OF 'weirgatelaw14.ChunkOpensAnything'. -/
def chunkOpensAnythingUptoCard : Claim7 := { stood := { row := chunkOpensAnythingUptoRow, standIns := [], harness := (true, "df59007bc068d6163b9737578afc6930cfaceb5e63dc0103a1c90dc3bbae6e06"), looks := true }, kinds := [], alts := [], laidByText := true, laidKinds := [.data], laidTests := true, laidLooks := .later }
def ChunkOpensAnythingUptoCardSaid : Prop := Claim7.holds Tryd.pinned (.plain (OpenSpec.upto chunkOpensAnythingSpec)) chunkOpensAnythingUptoCard
end Rows
end Go.Proofs.YtpnikndmidcedaaDoor
