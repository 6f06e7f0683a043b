import Derived.Test.YtcchjpjkhaomeaaFxRun
import Derived.Test.YtcchjpjkhaomeaaTW7
import Derived.Test.YtcchjpjkhaomeaaRows
set_option linter.unusedVariables false
set_option linter.unusedSimpArgs false
set_option linter.unusedSectionVars false
namespace Go.Proofs.Ytcchjpjkhaomeaa.variantSplitsExactlyX
open Go.ChangeShapes Go.WideShapes Go.ChangeAt Go.RowKit Go.Fx
theorem own : ownKnob Try.prog.godebug = none := by kernel_rfl
def tys : List Fx.T := [.sl 3 (.st [.str, .sl 1 .str, .str]), .sl 3 (.st [.str, .sl 1 .str, .str]), .sl 2 (.st [.str, .str]), .sl 2 (.st [.str, .str])]
theorem tys_eq : tysA Try.prog Try.f7.params.toList = some tys := by kernel_rfl
theorem laidOut : laidOutB Try.prog = true := by kernel_rfl
theorem hfn : ∀ xs, WfA tys xs → Fx.Fn Try.prog 7 xs [] [] (fun r _ => r = .b true) := Fx.W.fn7
set_option maxRecDepth 100000 in
theorem lifted (os : Os) (started : os.Started) (H : Type) (enc : TypeId × Value → H) :
  ReturnsInHanded {} Try.checked os 7 .any (Rows.variantSplitsExactlySpec.pre6 enc Try.prog Try.f7 Rows.variantSplitsExactlyRow.domain false) (Rows.variantSplitsExactlySpec.post enc Try.prog Try.f7 false true false false) := by
 refine returnsInHanded_of_change (C := Try.checked) own started (by kernel_rfl) Try.func7
  (ChangeSpec.witness6 (enc := enc) (C := Try.checked) false ⟨#[], #[.slice none 0 0, .slice none 0 0, .slice none 0 0, .slice none 0 0], []⟩ 7 (by kernel_rfl) (by kernel_rfl) (by kernel_rfl) (by kernel_rfl)) ?_
 intro W base args ds gs before hval hW _ _
 refine law_contract (tb := 4) laidOut tys_eq (by kernel_rfl) (by kernel_rfl) (by kernel_rfl) rfl (fun H ds hd => ?_) hfn W base args ds gs before hval hW
 match ds, hd with
 | [_, _, _, _], _ => rfl
theorem over : Rows.variantSplitsExactlyRow.holds Try.pinned (OpenSpec.ofChange Rows.variantSplitsExactlySpec) :=
 OpenClaim.holds_of_wide 7 Try.f7 rfl rfl rfl rfl rfl rfl rfl ⟨rfl, rfl, rfl, rfl, rfl⟩ rfl rfl rfl rfl rfl (by kernel_rfl) Try.func7 (by kernel_rfl)
  (of_decide_eq_true (by kernel_rfl)) (by unfold Func.isWrapper; first | (rw [if_pos (by decide +kernel)]; kernel_rfl) | (rw [if_neg (by decide +kernel)]; exact ⟨rfl, rfl⟩))
  (fun os started H enc _ => lifted os started H enc)
theorem proved : Rows.VariantSplitsExactlySaid := over
end Go.Proofs.Ytcchjpjkhaomeaa.variantSplitsExactlyX
