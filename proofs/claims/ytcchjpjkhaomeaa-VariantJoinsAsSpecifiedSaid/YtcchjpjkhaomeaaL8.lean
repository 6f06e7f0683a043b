import Derived.Test.YtcchjpjkhaomeaaFxRun
import Derived.Test.YtcchjpjkhaomeaaTW8
import Derived.Test.YtcchjpjkhaomeaaRows
set_option linter.unusedVariables false
set_option linter.unusedSimpArgs false
set_option linter.unusedSectionVars false
namespace Go.Proofs.Ytcchjpjkhaomeaa.variantJoinsAsSpecifiedX
open Go.ChangeShapes Go.WideShapes Go.ChangeAt Go.RowKit Go.Fx
theorem own : ownKnob Try.prog.godebug = none := by kernel_rfl
def tys : List Fx.T := [.sl 3 (.st [.str, .sl 1 .str, .str]), .sl 3 (.st [.str, .sl 1 .str, .str]), .sl 2 (.st [.str, .str]), .sl 2 (.st [.str, .str])]
theorem tys_eq : tysA Try.prog Try.f8.params.toList = some tys := by kernel_rfl
theorem laidOut : laidOutB Try.prog = true := by kernel_rfl
theorem hfn : ∀ xs, WfA tys xs → Fx.Fn Try.prog 8 xs [] [] (fun r _ => r = .b true) := Fx.W.fn8
set_option maxRecDepth 100000 in
theorem lifted (os : Os) (started : os.Started) (H : Type) (enc : TypeId × Value → H) :
  ReturnsInHanded {} Try.checked os 8 .any (Rows.variantJoinsAsSpecifiedSpec.pre6 enc Try.prog Try.f8 Rows.variantJoinsAsSpecifiedRow.domain false) (Rows.variantJoinsAsSpecifiedSpec.post enc Try.prog Try.f8 false true false false) := by
 refine returnsInHanded_of_change (C := Try.checked) own started (by kernel_rfl) Try.func8
  (ChangeSpec.witness6 (enc := enc) (C := Try.checked) false ⟨#[], #[.slice none 0 0, .slice none 0 0, .slice none 0 0, .slice none 0 0], []⟩ 8 (by kernel_rfl) (by kernel_rfl) (by kernel_rfl) (by kernel_rfl)) ?_
 intro W base args ds gs before hval hW _ _
 refine law_contract (tb := 4) laidOut tys_eq (by kernel_rfl) (by kernel_rfl) (by kernel_rfl) rfl (fun H ds hd => ?_) hfn W base args ds gs before hval hW
 match ds, hd with
 | [_, _, _, _], _ => rfl
theorem over : Rows.variantJoinsAsSpecifiedRow.holds Try.pinned (OpenSpec.ofChange Rows.variantJoinsAsSpecifiedSpec) :=
 OpenClaim.holds_of_wide 8 Try.f8 rfl rfl rfl rfl rfl rfl rfl ⟨rfl, rfl, rfl, rfl, rfl⟩ rfl rfl rfl rfl rfl (by kernel_rfl) Try.func8 (by kernel_rfl)
  (of_decide_eq_true (by kernel_rfl)) (by unfold Func.isWrapper; first | (rw [if_pos (by decide +kernel)]; kernel_rfl) | (rw [if_neg (by decide +kernel)]; exact ⟨rfl, rfl⟩))
  (fun os started H enc _ => lifted os started H enc)
theorem proved : Rows.VariantJoinsAsSpecifiedSaid := over
end Go.Proofs.Ytcchjpjkhaomeaa.variantJoinsAsSpecifiedX
