import Derived.Test.YtikjajggcbkfcaaCCode
import Derived.Test.YtikjajggcbkfcaaProg
set_option linter.unusedVariables false
set_option linter.unusedSimpArgs false
set_option linter.unusedSectionVars false
namespace Go.Fx.C
open Go Go.Fx Go.Proofs
theorem pol : Try.prog.follows .mixedOrders = true := by kernel_rfl
theorem lw3 : rlF Try.prog 3 c3 = some (c3, [.tmp 8], 65) := by kernel_rfl
theorem lw4 : rlF Try.prog 4 c4 = some (c4, [.tmp 8], 76) := by kernel_rfl
theorem lw5 : rlF Try.prog 5 c5 = some (c5, [.tmp 10], 59) := by kernel_rfl
theorem lw6 : rlF Try.prog 6 c6 = some (c6, [.tmp 8], 151) := by kernel_rfl
theorem lw7 : rlF Try.prog 7 c7 = some (c7, [.tmp 12], 73) := by kernel_rfl
theorem lw8 : rlF Try.prog 8 c8 = some (c8, [.tmp 14], 142) := by kernel_rfl
theorem lw9 : rlF Try.prog 9 c9 = some (c9, [.tmp 0], 123) := by kernel_rfl
theorem lw10 : rlF Try.prog 10 c10 = some (c10, [.tmp 2], 68) := by kernel_rfl
theorem lw11 : rlF Try.prog 11 c11 = some (c11, [.tmp 2], 66) := by kernel_rfl
theorem lw12 : rlF Try.prog 12 c12 = some (c12, [.tmp 8], 35) := by kernel_rfl
theorem lw13 : rlF Try.prog 13 c13 = some (c13, [.cell 8 (some 5), .tmp 9], 97) := by kernel_rfl
theorem lw14 : rlF Try.prog 14 c14 = some (c14, [.tmp 4], 35) := by kernel_rfl
theorem lw15 : rlF Try.prog 15 c15 = some (c15, [.cell 8 (some 5)], 146) := by kernel_rfl
theorem lw16 : rlF Try.prog 16 c16 = some (c16, [.tmp 10], 73) := by kernel_rfl
theorem lw17 : rlF Try.prog 17 c17 = some (c17, [.tmp 10], 60) := by kernel_rfl
theorem lw18 : rlF Try.prog 18 c18 = some (c18, [.tmp 8, .tmp 9], 43) := by kernel_rfl
theorem lw19 : rlF Try.prog 19 c19 = some (c19, [.cell 8 (some 2)], 28) := by kernel_rfl
theorem lw20 : rlF Try.prog 20 c20 = some (c20, [.tmp 8], 62) := by kernel_rfl
theorem lw21 : rlF Try.prog 21 c21 = some (c21, [.tmp 6], 45) := by kernel_rfl
theorem lw22 : rlF Try.prog 22 c22 = some (c22, [.tmp 4], 27) := by kernel_rfl
theorem lw23 : rlF Try.prog 23 c23 = some (c23, [.cell 0 (some 2)], 8) := by kernel_rfl
theorem lw24 : rlF Try.prog 24 c24 = some (c24, [.tmp 4], 13) := by kernel_rfl
theorem lw25 : rlF Try.prog 25 c25 = some (c25, [.tmp 3], 12) := by kernel_rfl
theorem lw26 : rlF Try.prog 26 c26 = some (c26, [.tmp 8], 40) := by kernel_rfl
theorem lw27 : rlF Try.prog 27 c27 = some (c27, [.tmp 4], 64) := by kernel_rfl
theorem lw28 : rlF Try.prog 28 c28 = some (c28, [.tmp 4], 71) := by kernel_rfl
theorem lw29 : rlF Try.prog 29 c29 = some (c29, [.cell 6 (some 5)], 39) := by kernel_rfl
theorem lw30 : rlF Try.prog 30 c30 = some (c30, [.tmp 8], 22) := by kernel_rfl
theorem lw31 : rlF Try.prog 31 c31 = some (c31, [.cell 6 (some 2)], 168) := by kernel_rfl
theorem lw32 : rlF Try.prog 32 c32 = some (c32, [.tmp 0], 1) := by kernel_rfl
theorem lw33 : rlF Try.prog 33 c33 = some (c33, [.tmp 6], 97) := by kernel_rfl
theorem lw34 : rlF Try.prog 34 c34 = some (c34, [.tmp 8], 110) := by kernel_rfl
theorem lw35 : rlF Try.prog 35 c35 = some (c35, [.tmp 8], 105) := by kernel_rfl
theorem lw36 : rlF Try.prog 36 c36 = some (c36, [.tmp 6], 78) := by kernel_rfl
theorem lw37 : rlF Try.prog 37 c37 = some (c37, [.tmp 8], 117) := by kernel_rfl
theorem lw38 : rlF Try.prog 38 c38 = some (c38, [.tmp 4], 48) := by kernel_rfl
theorem lw39 : rlF Try.prog 39 c39 = some (c39, [], 63) := by kernel_rfl
theorem lw40 : rlF Try.prog 40 c40 = some (c40, [.tmp 2, .tmp 3], 95) := by kernel_rfl
theorem lw41 : rlF Try.prog 41 c41 = some (c41, [.tmp 4], 6) := by kernel_rfl
theorem lw42 : rlF Try.prog 42 c42 = some (c42, [.tmp 6], 26) := by kernel_rfl
theorem lw43 : rlF Try.prog 43 c43 = some (c43, [.tmp 2], 31) := by kernel_rfl
theorem lw44 : rlF Try.prog 44 c44 = some (c44, [.tmp 8], 80) := by kernel_rfl
theorem lw45 : rlF Try.prog 45 c45 = some (c45, [.tmp 4], 18) := by kernel_rfl
theorem lw46 : rlF Try.prog 46 c46 = some (c46, [.tmp 4], 9) := by kernel_rfl
theorem lw47 : rlF Try.prog 47 c47 = some (c47, [.tmp 2], 9) := by kernel_rfl
theorem lw48 : rlF Try.prog 48 c48 = some (c48, [.tmp 4, .tmp 5], 30) := by kernel_rfl
theorem lw49 : rlF Try.prog 49 c49 = some (c49, [], 58) := by kernel_rfl
theorem lw50 : rlF Try.prog 50 c50 = some (c50, [], 72) := by kernel_rfl
theorem lw51 : rlF Try.prog 51 c51 = some (c51, [.tmp 4], 19) := by kernel_rfl
theorem lw52 : rlF Try.prog 52 c52 = some (c52, [.tmp 4, .tmp 5], 17) := by kernel_rfl
theorem lw53 : rlF Try.prog 53 c53 = some (c53, [.tmp 4, .tmp 5], 51) := by kernel_rfl
end Go.Fx.C
