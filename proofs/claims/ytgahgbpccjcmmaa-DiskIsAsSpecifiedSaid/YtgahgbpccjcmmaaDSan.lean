import Derived.Test.YtgahgbpccjcmmaaDLow
import Derived.Test.YtgahgbpccjcmmaaFxRunSound
set_option linter.unusedVariables false
set_option linter.unusedSimpArgs false
set_option linter.unusedSectionVars false
namespace Go.Fx.D
open Go Go.Fx Go.Proofs
theorem tblOk : okL Try.prog 0 tbl := ⟨lw7,lw8,lw11,lw14,lw15,lw16,lw17,lw18,lw20,lw21,lw22,lw23,lw24,lw25,lw26,lw34,lw36,lw37,lw38,lw39,lw42,lw43,lw44,lw45,lw46,lw47,lw48,lw49,lw50,lw51,lw52,lw53,lw54,lw55,lw56,lw57,lw58,lw59,lw60,lw61,lw62,lw63,lw64,lw65,trivial⟩
def memos : List Memo := []
theorem memosOk : ∀ m ∈ memos,m.ok Try.prog := by
  intro m hm
  simp only [memos,List.mem_cons,List.not_mem_nil,or_false] at hm
theorem san_run : givesB (fnD tbl memos 20 8 [] [] []) (.b true) [] = true := by decide +kernel
theorem san : Callable Try.prog 8 ∧ Fn Try.prog 8 [] [] [] (fun r h => r = .b true ∧ h = []) := fnD_ok pol tblOk memosOk 20 _ _ _ _ _ _ (givesB_ok san_run)
end Go.Fx.D
