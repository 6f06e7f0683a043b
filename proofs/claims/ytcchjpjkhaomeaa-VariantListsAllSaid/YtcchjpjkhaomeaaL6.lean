import Derived.Test.YtcchjpjkhaomeaaFxRun
import Derived.Test.YtcchjpjkhaomeaaTW6
import Derived.Test.YtcchjpjkhaomeaaRows
set_option linter.unusedVariables false
set_option linter.unusedSimpArgs false
set_option linter.unusedSectionVars false
namespace Go.Proofs.Ytcchjpjkhaomeaa.variantListsAllX
open Go.ChangeShapes Go.WideShapes Go.ChangeAt Go.RowKit Go.Fx
theorem own : ownKnob Try.prog.godebug = none := by kernel_rfl
def tys : List Fx.T := [.sl 3 (.st [.str, .sl 1 .str, .str]), .sl 2 (.st [.str, .str])]
theorem tys_eq : tysA Try.prog Try.f6.params.toList = some tys := by kernel_rfl
theorem laidOut : laidOutB Try.prog = true := by kernel_rfl
theorem hfn : ∀ xs, WfA tys xs → Fx.Fn Try.prog 6 xs [] [] (fun r _ => r = .b true) := Fx.W.fn6
set_option maxRecDepth 100000 in
theorem lifted (os : Os) (started : os.Started) (H : Type) (enc : TypeId × Value → H) :
  ReturnsInHanded {} Try.checked os 6 .any (Rows.variantListsAllSpec.pre6 enc Try.prog Try.f6 Rows.variantListsAllRow.domain false) (Rows.variantListsAllSpec.post enc Try.prog Try.f6 false true false false) := by
 refine returnsInHanded_of_change (C := Try.checked) own started (by kernel_rfl) Try.func6
  (ChangeSpec.witness6 (enc := enc) (C := Try.checked) false ⟨#[], #[.slice none 0 0, .slice none 0 0], []⟩ 6 (by kernel_rfl) (by kernel_rfl) (by kernel_rfl) (by kernel_rfl)) ?_
 intro W base args ds gs before hval hW _ _
 refine law_contract (tb := 4) laidOut tys_eq (by kernel_rfl) (by kernel_rfl) (by kernel_rfl) rfl (fun H ds hd => ?_) hfn W base args ds gs before hval hW
 match ds, hd with
 | [_, _], _ => rfl
theorem over : Rows.variantListsAllRow.holds Try.pinned (OpenSpec.ofChange Rows.variantListsAllSpec) :=
 OpenClaim.holds_of_wide 6 Try.f6 rfl rfl rfl rfl rfl rfl rfl ⟨rfl, rfl, rfl, rfl, rfl⟩ rfl rfl rfl rfl rfl (by kernel_rfl) Try.func6 (by kernel_rfl)
  (of_decide_eq_true (by kernel_rfl)) (by unfold Func.isWrapper; first | (rw [if_pos (by decide +kernel)]; kernel_rfl) | (rw [if_neg (by decide +kernel)]; exact ⟨rfl, rfl⟩))
  (fun os started H enc _ => lifted os started H enc)
theorem proved : Rows.VariantListsAllSaid := over
end Go.Proofs.Ytcchjpjkhaomeaa.variantListsAllX
