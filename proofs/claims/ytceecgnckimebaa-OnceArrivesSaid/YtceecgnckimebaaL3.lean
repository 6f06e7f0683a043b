import Derived.Test.YtceecgnckimebaaPCode
import Derived.Test.YtceecgnckimebaaTWR
import Derived.Test.YtceecgnckimebaaRows
set_option linter.unusedVariables false
set_option linter.unusedSimpArgs false
set_option linter.unusedSectionVars false
namespace Go.Proofs.Ytceecgnckimebaa.onceArrivesX
open Go.ChangeShapes Go.WideShapes Go.ChangeAt Go.RowKit Go.Fx
theorem own : ownKnob Try.prog.godebug = none := by kernel_rfl
def tys : List Fx.T := [.int .u8, .sl 4 (.st [.int .u8, .int .u8, .int .u8, .int .u8])]
theorem tys_eq : tysA Try.prog Try.f3.params.toList = some tys := by kernel_rfl
theorem laidOut : laidOutB Try.prog = true := by kernel_rfl
theorem hfn : ∀ xs, WfA tys xs → Fx.Fn Try.prog 3 xs [] [] (fun r _ => r = .b true) := Fx.P.fn3
set_option maxRecDepth 100000 in
theorem lifted (os : Os) (started : os.Started) (H : Type) (enc : TypeId × Value → H) :
  ReturnsInHanded {} Try.checked os 3 .any (Rows.onceArrivesSpec.pre6 enc Try.prog Try.f3 Rows.onceArrivesRow.domain false) (Rows.onceArrivesSpec.post enc Try.prog Try.f3 false true false false) := by
 refine returnsInHanded_of_change (C := Try.checked) own started (by kernel_rfl) Try.func3
  (ChangeSpec.witness6 (enc := enc) (C := Try.checked) false ⟨#[], #[.int .u8 0, .slice none 0 0], []⟩ 3 (by kernel_rfl) (by kernel_rfl) (by kernel_rfl) (by kernel_rfl)) ?_
 intro W base args ds gs before hval hW _ _
 refine law_contract (tb := 4) laidOut tys_eq (by kernel_rfl) (by kernel_rfl) (by kernel_rfl) rfl (fun H ds hd => ?_) hfn W base args ds gs before hval hW
 match ds, hd with
 | [_, _], _ => rfl
theorem over : Rows.onceArrivesRow.holds Try.pinned (OpenSpec.ofChange Rows.onceArrivesSpec) :=
 OpenClaim.holds_of_wide 3 Try.f3 rfl rfl rfl rfl rfl rfl rfl ⟨rfl, rfl, rfl, rfl, rfl⟩ rfl rfl rfl rfl rfl (by kernel_rfl) Try.func3 (by kernel_rfl)
  (of_decide_eq_true (by kernel_rfl)) (by unfold Func.isWrapper; first | (rw [if_pos (by decide +kernel)]; kernel_rfl) | (rw [if_neg (by decide +kernel)]; exact ⟨rfl, rfl⟩))
  (fun os started H enc _ => lifted os started H enc)
theorem proved : Rows.OnceArrivesSaid := over
end Go.Proofs.Ytceecgnckimebaa.onceArrivesX
