import Derived.Test.YtjijbjnelflcfaaGreatJCode
import Derived.Test.YtjijbjnelflcfaaGreatTW5
import Derived.Test.YtjijbjnelflcfaaGreatRows
set_option linter.unusedVariables false
set_option linter.unusedSimpArgs false
set_option linter.unusedSectionVars false
namespace Go.Proofs.YtjijbjnelflcfaaGreat.joinFetchesOnceX
open Go.ChangeShapes Go.WideShapes Go.ChangeAt Go.RowKit Go.Fx
theorem own : ownKnob Tryz.prog.godebug = none := by kernel_rfl
def tys : List Fx.T := [.sl 2 (.st [.int .u8, .sl 2 (.st [.int .i64, .int .i64])]), .sl 1 (.int .u16)]
theorem tys_eq : tysA Tryz.prog Tryz.f5.params.toList = some tys := by kernel_rfl
theorem laidOut : laidOutB Tryz.prog = true := by kernel_rfl
theorem hfn : ∀ xs, WfA tys xs → Fx.Fn Tryz.prog 5 xs [] [] (fun r _ => r = .b true) := Fx.J.fn5
set_option maxRecDepth 100000 in
theorem lifted (os : Os) (started : os.Started) (H : Type) (enc : TypeId × Value → H) :
  ReturnsInHanded {} Tryz.checked os 5 .any (Rows.joinFetchesOnceSpec.pre6 enc Tryz.prog Tryz.f5 Rows.joinFetchesOnceRow.domain false) (Rows.joinFetchesOnceSpec.post enc Tryz.prog Tryz.f5 false true false false) := by
 refine returnsInHanded_of_change (C := Tryz.checked) own started (by kernel_rfl) Tryz.func5
  (ChangeSpec.witness6 (enc := enc) (C := Tryz.checked) false ⟨#[], #[.slice none 0 0, .slice none 0 0], []⟩ 5 (by kernel_rfl) (by kernel_rfl) (by kernel_rfl) (by kernel_rfl)) ?_
 intro W base args ds gs before hval hW _ _
 refine law_contract (tb := 4) laidOut tys_eq (by kernel_rfl) (by kernel_rfl) (by kernel_rfl) rfl (fun H ds hd => ?_) hfn W base args ds gs before hval hW
 match ds, hd with
 | [_, _], _ => rfl
theorem over : Rows.joinFetchesOnceRow.holds Tryz.pinned (OpenSpec.ofChange Rows.joinFetchesOnceSpec) :=
 OpenClaim.holds_of_wide 5 Tryz.f5 rfl rfl rfl rfl rfl rfl rfl ⟨rfl, rfl, rfl, rfl, rfl⟩ rfl rfl rfl rfl rfl (by kernel_rfl) Tryz.func5 (by kernel_rfl)
  (of_decide_eq_true (by kernel_rfl)) (by unfold Func.isWrapper; first | (rw [if_pos (by decide +kernel)]; kernel_rfl) | (rw [if_neg (by decide +kernel)]; exact ⟨rfl, rfl⟩))
  (fun os started H enc _ => lifted os started H enc)
theorem proved : Rows.JoinFetchesOnceSaid := over
end Go.Proofs.YtjijbjnelflcfaaGreat.joinFetchesOnceX
