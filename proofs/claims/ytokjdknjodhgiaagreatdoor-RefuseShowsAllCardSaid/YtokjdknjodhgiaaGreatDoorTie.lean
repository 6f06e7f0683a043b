/-
  DERIVED. GIVEN WITH THE SEED: THE PROGRAM's TIES (one call each: nine closed facts by the kernel) AND EACH ROW's TIE, after the 31st guide's Derived/Test/Toyas{Tie, Card}.lean. No idea stands in it: it is a product of the set-up. Laid BY PROGRAM, IN A SANDBOX (cutbox-door.mjs). By AI agents, Wed Nov 11 2026. No macro, syntax, notation, axiom, sorry.
-/
import Derived.Test.YtokjdknjodhgiaaGreatDoorRows
import Derived.LaidByTextLater
import Derived.SevenTiedAt
import Derived.LaidSub
import Derived.LaidOnce
namespace Go.Proofs.YtokjdknjodhgiaaGreatDoor
open Go
set_option maxRecDepth 100000
theorem seatTie1 : Tryz.prog.laidByTextLater [("weirgate/weirgateref02.constants", Rows.laid_weirgate_weirgateref02_constants), ("weirgate/hash.constants", Rows.laid_weirgate_hash_constants)] [.data, .data] true :=
  Program.laidByTextLater_by_one 19 8 65 (by kernel_rfl) (by kernel_rfl) (by kernel_rfl) (by kernel_rfl) (by kernel_rfl) (by kernel_rfl) (fun _ _ => by kernel_rfl)
theorem noOwnUnsafe : Tryz.pinned.checked.prog.headLifts.contains "ownunsafe" = false := by kernel_rfl
theorem tie : Tryz.prog.laidByTextLater [("weirgate/weirgateref02.constants", Rows.laid_weirgate_weirgateref02_constants), ("weirgate/hash.constants", Rows.laid_weirgate_hash_constants)] [.data, .data] true :=
  Program.laidByTextLater.sub seatTie1 ["weirgate/weirgateref02.constants", "weirgate/hash.constants"] (by kernel_rfl) (by kernel_rfl)
theorem refuseMakesAsSpecified_row_tie : Rows.refuseMakesAsSpecifiedRow.laidByTextAt .later Tryz.pinned [.data, .data] true :=
  OpenClaim.laidByTextAt_later rfl rfl tie noOwnUnsafe
theorem refuseChecksAsSpecified_row_tie : Rows.refuseChecksAsSpecifiedRow.laidByTextAt .later Tryz.pinned [.data, .data] true :=
  OpenClaim.laidByTextAt_later rfl rfl tie noOwnUnsafe
theorem tie2 : Tryz.prog.laidByTextLater [("weirgate/hash.constants", Rows.laid_weirgate_hash_constants)] [.data] true :=
  Program.laidByTextLater.sub seatTie1 ["weirgate/hash.constants"] (by kernel_rfl) (by kernel_rfl)
theorem refuseOnlyIfItMust_row_tie : Rows.refuseOnlyIfItMustRow.laidByTextAt .later Tryz.pinned [.data] true :=
  OpenClaim.laidByTextAt_later rfl rfl tie2 noOwnUnsafe
theorem refuseShowsAll_row_tie : Rows.refuseShowsAllRow.laidByTextAt .later Tryz.pinned [.data] true :=
  OpenClaim.laidByTextAt_later rfl rfl tie2 noOwnUnsafe
theorem refuseNothingThatFits_row_tie : Rows.refuseNothingThatFitsRow.laidByTextAt .later Tryz.pinned [.data] true :=
  OpenClaim.laidByTextAt_later rfl rfl tie2 noOwnUnsafe
theorem refuseMakesAsSpecifiedUpto_row_tie : Rows.refuseMakesAsSpecifiedUptoRow.laidByTextAt .later Tryz.pinned [.data, .data] true :=
  OpenClaim.laidByTextAt_later rfl rfl tie noOwnUnsafe
theorem refuseChecksAsSpecifiedUpto_row_tie : Rows.refuseChecksAsSpecifiedUptoRow.laidByTextAt .later Tryz.pinned [.data, .data] true :=
  OpenClaim.laidByTextAt_later rfl rfl tie noOwnUnsafe
theorem refuseOnlyIfItMustUpto_row_tie : Rows.refuseOnlyIfItMustUptoRow.laidByTextAt .later Tryz.pinned [.data] true :=
  OpenClaim.laidByTextAt_later rfl rfl tie2 noOwnUnsafe
theorem refuseShowsAllUpto_row_tie : Rows.refuseShowsAllUptoRow.laidByTextAt .later Tryz.pinned [.data] true :=
  OpenClaim.laidByTextAt_later rfl rfl tie2 noOwnUnsafe
theorem refuseNothingThatFitsUpto_row_tie : Rows.refuseNothingThatFitsUptoRow.laidByTextAt .later Tryz.pinned [.data] true :=
  OpenClaim.laidByTextAt_later rfl rfl tie2 noOwnUnsafe
end Go.Proofs.YtokjdknjodhgiaaGreatDoor
