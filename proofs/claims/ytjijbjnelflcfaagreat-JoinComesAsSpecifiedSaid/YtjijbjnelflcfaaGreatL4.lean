import Derived.Test.YtjijbjnelflcfaaGreatJCode
import Derived.Test.YtjijbjnelflcfaaGreatTW4
import Derived.Test.YtjijbjnelflcfaaGreatRows
set_option linter.unusedVariables false
set_option linter.unusedSimpArgs false
set_option linter.unusedSectionVars false
namespace Go.Proofs.YtjijbjnelflcfaaGreat.joinComesAsSpecifiedX
open Go.ChangeShapes Go.WideShapes Go.ChangeAt Go.RowKit Go.Fx
theorem own : ownKnob Tryz.prog.godebug = none := by kernel_rfl
def tys : List Fx.T := [.st [.int .i64, .sl 3 (.st [.str, .sl 3 (.st [.int .i64, .st [.int .i64, .int .i64]]), .sl 2 (.st [.int .i64, .sl 2 (.st [.int .i64, .int .i64])])])], .str, .int .i64, .sl 2 (.st [.int .i64, .int .i64])]
theorem tys_eq : tysA Tryz.prog Tryz.f4.params.toList = some tys := by kernel_rfl
theorem laidOut : laidOutB Tryz.prog = true := by kernel_rfl
theorem hfn : ∀ xs, WfA tys xs → Fx.Fn Tryz.prog 4 xs [] [] (fun r _ => r = .b true) := Fx.J.fn4
set_option maxRecDepth 100000 in
theorem lifted (os : Os) (started : os.Started) (H : Type) (enc : TypeId × Value → H) :
  ReturnsInHanded {} Tryz.checked os 4 .any (Rows.joinComesAsSpecifiedSpec.pre6 enc Tryz.prog Tryz.f4 Rows.joinComesAsSpecifiedRow.domain false) (Rows.joinComesAsSpecifiedSpec.post enc Tryz.prog Tryz.f4 false true false false) := by
 refine returnsInHanded_of_change (C := Tryz.checked) own started (by kernel_rfl) Tryz.func4
  (ChangeSpec.witness6 (enc := enc) (C := Tryz.checked) false ⟨#[], #[.agg #[.int .i64 0, .slice none 0 0], .string ⟨#[]⟩, .int .i64 0, .slice none 0 0], []⟩ 4 (by kernel_rfl) (by kernel_rfl) (by kernel_rfl) (by kernel_rfl)) ?_
 intro W base args ds gs before hval hW _ _
 refine law_contract (tb := 4) laidOut tys_eq (by kernel_rfl) (by kernel_rfl) (by kernel_rfl) rfl (fun H ds hd => ?_) hfn W base args ds gs before hval hW
 match ds, hd with
 | [_, _, _, _], _ => rfl
theorem over : Rows.joinComesAsSpecifiedRow.holds Tryz.pinned (OpenSpec.ofChange Rows.joinComesAsSpecifiedSpec) :=
 OpenClaim.holds_of_wide 4 Tryz.f4 rfl rfl rfl rfl rfl rfl rfl ⟨rfl, rfl, rfl, rfl, rfl⟩ rfl rfl rfl rfl rfl (by kernel_rfl) Tryz.func4 (by kernel_rfl)
  (of_decide_eq_true (by kernel_rfl)) (by unfold Func.isWrapper; first | (rw [if_pos (by decide +kernel)]; kernel_rfl) | (rw [if_neg (by decide +kernel)]; exact ⟨rfl, rfl⟩))
  (fun os started H enc _ => lifted os started H enc)
theorem proved : Rows.JoinComesAsSpecifiedSaid := over
end Go.Proofs.YtjijbjnelflcfaaGreat.joinComesAsSpecifiedX
