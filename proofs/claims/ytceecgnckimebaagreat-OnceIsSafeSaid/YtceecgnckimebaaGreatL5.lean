import Derived.Test.YtceecgnckimebaaGreatOCode
import Derived.Test.YtceecgnckimebaaGreatTWS
import Derived.Test.YtceecgnckimebaaGreatRows
set_option linter.unusedVariables false
set_option linter.unusedSimpArgs false
set_option linter.unusedSectionVars false
namespace Go.Proofs.YtceecgnckimebaaGreat.onceIsSafeX
open Go.ChangeShapes Go.WideShapes Go.ChangeAt Go.RowKit Go.Fx
theorem own : ownKnob Tryz.prog.godebug = none := by kernel_rfl
def tys : List Fx.T := [.int .u8, .sl 4 (.st [.int .u8, .int .u8, .int .u8, .int .u8])]
theorem tys_eq : tysA Tryz.prog Tryz.f5.params.toList = some tys := by kernel_rfl
theorem laidOut : laidOutB Tryz.prog = true := by kernel_rfl
theorem hfn : ∀ xs, WfA tys xs → Fx.Fn Tryz.prog 5 xs [] [] (fun r _ => r = .b true) := Fx.O.fn5
set_option maxRecDepth 100000 in
theorem lifted (os : Os) (started : os.Started) (H : Type) (enc : TypeId × Value → H) :
  ReturnsInHanded {} Tryz.checked os 5 .any (Rows.onceIsSafeSpec.pre6 enc Tryz.prog Tryz.f5 Rows.onceIsSafeRow.domain false) (Rows.onceIsSafeSpec.post enc Tryz.prog Tryz.f5 false true false false) := by
 refine returnsInHanded_of_change (C := Tryz.checked) own started (by kernel_rfl) Tryz.func5
  (ChangeSpec.witness6 (enc := enc) (C := Tryz.checked) false ⟨#[], #[.int .u8 0, .slice none 0 0], []⟩ 5 (by kernel_rfl) (by kernel_rfl) (by kernel_rfl) (by kernel_rfl)) ?_
 intro W base args ds gs before hval hW _ _
 refine law_contract (tb := 4) laidOut tys_eq (by kernel_rfl) (by kernel_rfl) (by kernel_rfl) rfl (fun H ds hd => ?_) hfn W base args ds gs before hval hW
 match ds, hd with
 | [_, _], _ => rfl
theorem over : Rows.onceIsSafeRow.holds Tryz.pinned (OpenSpec.ofChange Rows.onceIsSafeSpec) :=
 OpenClaim.holds_of_wide 5 Tryz.f5 rfl rfl rfl rfl rfl rfl rfl ⟨rfl, rfl, rfl, rfl, rfl⟩ rfl rfl rfl rfl rfl (by kernel_rfl) Tryz.func5 (by kernel_rfl)
  (of_decide_eq_true (by kernel_rfl)) (by unfold Func.isWrapper; first | (rw [if_pos (by decide +kernel)]; kernel_rfl) | (rw [if_neg (by decide +kernel)]; exact ⟨rfl, rfl⟩))
  (fun os started H enc _ => lifted os started H enc)
theorem proved : Rows.OnceIsSafeSaid := over
end Go.Proofs.YtceecgnckimebaaGreat.onceIsSafeX
