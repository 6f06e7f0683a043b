/-
  DERIVED. GIVEN WITH THE SEED: THE CARDS: each row of YtokjdknjodhgiaaGreatDoorRows.lean that lists a variable, with what it lists TIED to the program's text (the seventh form; the later family's looks); each row that meets fmt, with fmt's text TOLD by the authors' own Lean function (tested against real Go, not proved from fmt's source: count such statements apart). THE CARD IS WHAT COUNTS. Prove the row's statement (the work); the ties are given (YtokjdknjodhgiaaGreatDoorTie.lean); close each card by the builder's one call (the guide's Derived/Test/ToyasCard.lean, 'card_holds'). Laid BY PROGRAM, IN A SANDBOX (cutbox-door.mjs). By AI agents, Wed Nov 11 2026. No macro, syntax, notation, axiom, sorry.
-/
import Derived.Test.YtokjdknjodhgiaaGreatDoorRows
import GoSem.ClaimSeven
namespace Go.Proofs.YtokjdknjodhgiaaGreatDoor
namespace Rows

/-- THE TIED CARD OF 'weirgatelaw41.RefuseMakesAsSpecified'. -/
def refuseMakesAsSpecifiedCard : Claim7 := { stood := { row := refuseMakesAsSpecifiedRow, standIns := [], harness := (true, "3ba1a38e1e48c92718de5ca1122190e124041f9677043c297d89d276cd0f10f9"), looks := false }, kinds := [], alts := [], laidByText := true, laidKinds := [.data, .data], laidTests := true, laidLooks := .later }
def RefuseMakesAsSpecifiedCardSaid : Prop := Claim7.holds Tryz.pinned (.plain (OpenSpec.ofChange refuseMakesAsSpecifiedSpec)) refuseMakesAsSpecifiedCard

/-- THE TIED CARD OF 'weirgatelaw41.RefuseChecksAsSpecified'. -/
def refuseChecksAsSpecifiedCard : Claim7 := { stood := { row := refuseChecksAsSpecifiedRow, standIns := [], harness := (true, "3ba1a38e1e48c92718de5ca1122190e124041f9677043c297d89d276cd0f10f9"), looks := false }, kinds := [], alts := [], laidByText := true, laidKinds := [.data, .data], laidTests := true, laidLooks := .later }
def RefuseChecksAsSpecifiedCardSaid : Prop := Claim7.holds Tryz.pinned (.plain (OpenSpec.ofChange refuseChecksAsSpecifiedSpec)) refuseChecksAsSpecifiedCard

/-- THE TIED CARD OF 'weirgatelaw41.RefuseOnlyIfItMust'. -/
def refuseOnlyIfItMustCard : Claim7 := { stood := { row := refuseOnlyIfItMustRow, standIns := [], harness := (true, "3ba1a38e1e48c92718de5ca1122190e124041f9677043c297d89d276cd0f10f9"), looks := false }, kinds := [], alts := [], laidByText := true, laidKinds := [.data], laidTests := true, laidLooks := .later }
def RefuseOnlyIfItMustCardSaid : Prop := Claim7.holds Tryz.pinned (.plain (OpenSpec.ofChange refuseOnlyIfItMustSpec)) refuseOnlyIfItMustCard

/-- THE TIED CARD OF 'weirgatelaw41.RefuseShowsAll'. -/
def refuseShowsAllCard : Claim7 := { stood := { row := refuseShowsAllRow, standIns := [], harness := (true, "3ba1a38e1e48c92718de5ca1122190e124041f9677043c297d89d276cd0f10f9"), looks := false }, kinds := [], alts := [], laidByText := true, laidKinds := [.data], laidTests := true, laidLooks := .later }
def RefuseShowsAllCardSaid : Prop := Claim7.holds Tryz.pinned (.plain (OpenSpec.ofChange refuseShowsAllSpec)) refuseShowsAllCard

/-- THE TIED CARD OF 'weirgatelaw41.RefuseNothingThatFits'. -/
def refuseNothingThatFitsCard : Claim7 := { stood := { row := refuseNothingThatFitsRow, standIns := [], harness := (true, "3ba1a38e1e48c92718de5ca1122190e124041f9677043c297d89d276cd0f10f9"), looks := false }, kinds := [], alts := [], laidByText := true, laidKinds := [.data], laidTests := true, laidLooks := .later }
def RefuseNothingThatFitsCardSaid : Prop := Claim7.holds Tryz.pinned (.plain (OpenSpec.ofChange refuseNothingThatFitsSpec)) refuseNothingThatFitsCard

/-- THE SECOND FORM's CARD OF 'weirgatelaw41.RefuseMakesAsSpecified'. -/
def refuseMakesAsSpecifiedUptoCard : Claim7 := { stood := { row := refuseMakesAsSpecifiedUptoRow, standIns := [], harness := (true, "3ba1a38e1e48c92718de5ca1122190e124041f9677043c297d89d276cd0f10f9"), looks := false }, kinds := [], alts := [], laidByText := true, laidKinds := [.data, .data], laidTests := true, laidLooks := .later }
def RefuseMakesAsSpecifiedUptoCardSaid : Prop := Claim7.holds Tryz.pinned (.plain (OpenSpec.upto refuseMakesAsSpecifiedSpec)) refuseMakesAsSpecifiedUptoCard

/-- THE SECOND FORM's CARD OF 'weirgatelaw41.RefuseChecksAsSpecified'. -/
def refuseChecksAsSpecifiedUptoCard : Claim7 := { stood := { row := refuseChecksAsSpecifiedUptoRow, standIns := [], harness := (true, "3ba1a38e1e48c92718de5ca1122190e124041f9677043c297d89d276cd0f10f9"), looks := false }, kinds := [], alts := [], laidByText := true, laidKinds := [.data, .data], laidTests := true, laidLooks := .later }
def RefuseChecksAsSpecifiedUptoCardSaid : Prop := Claim7.holds Tryz.pinned (.plain (OpenSpec.upto refuseChecksAsSpecifiedSpec)) refuseChecksAsSpecifiedUptoCard

/-- THE SECOND FORM's CARD OF 'weirgatelaw41.RefuseOnlyIfItMust'. -/
def refuseOnlyIfItMustUptoCard : Claim7 := { stood := { row := refuseOnlyIfItMustUptoRow, standIns := [], harness := (true, "3ba1a38e1e48c92718de5ca1122190e124041f9677043c297d89d276cd0f10f9"), looks := false }, kinds := [], alts := [], laidByText := true, laidKinds := [.data], laidTests := true, laidLooks := .later }
def RefuseOnlyIfItMustUptoCardSaid : Prop := Claim7.holds Tryz.pinned (.plain (OpenSpec.upto refuseOnlyIfItMustSpec)) refuseOnlyIfItMustUptoCard

/-- THE SECOND FORM's CARD OF 'weirgatelaw41.RefuseShowsAll'. -/
def refuseShowsAllUptoCard : Claim7 := { stood := { row := refuseShowsAllUptoRow, standIns := [], harness := (true, "3ba1a38e1e48c92718de5ca1122190e124041f9677043c297d89d276cd0f10f9"), looks := false }, kinds := [], alts := [], laidByText := true, laidKinds := [.data], laidTests := true, laidLooks := .later }
def RefuseShowsAllUptoCardSaid : Prop := Claim7.holds Tryz.pinned (.plain (OpenSpec.upto refuseShowsAllSpec)) refuseShowsAllUptoCard

/-- THE SECOND FORM's CARD OF 'weirgatelaw41.RefuseNothingThatFits'. -/
def refuseNothingThatFitsUptoCard : Claim7 := { stood := { row := refuseNothingThatFitsUptoRow, standIns := [], harness := (true, "3ba1a38e1e48c92718de5ca1122190e124041f9677043c297d89d276cd0f10f9"), looks := false }, kinds := [], alts := [], laidByText := true, laidKinds := [.data], laidTests := true, laidLooks := .later }
def RefuseNothingThatFitsUptoCardSaid : Prop := Claim7.holds Tryz.pinned (.plain (OpenSpec.upto refuseNothingThatFitsSpec)) refuseNothingThatFitsUptoCard
end Rows
end Go.Proofs.YtokjdknjodhgiaaGreatDoor
