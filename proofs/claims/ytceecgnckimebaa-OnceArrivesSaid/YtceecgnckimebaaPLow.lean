import Derived.Test.YtceecgnckimebaaPCode
import Derived.Test.YtceecgnckimebaaProg
set_option linter.unusedVariables false
set_option linter.unusedSimpArgs false
set_option linter.unusedSectionVars false
namespace Go.Fx.P
open Go Go.Fx Go.Proofs
theorem pol : Try.prog.follows .mixedOrders = true := by kernel_rfl
theorem lw3 : rlF Try.prog 3 c3 = some (c3, [.tmp 4], 137) := by kernel_rfl
theorem lw4 : rlF Try.prog 4 c4 = some (c4, [.tmp 0], 195) := by kernel_rfl
theorem lw5 : rlF Try.prog 5 c5 = some (c5, [.cell 2 (some 3)], 30) := by kernel_rfl
theorem lw6 : rlF Try.prog 6 c6 = some (c6, [], 178) := by kernel_rfl
theorem lw7 : rlF Try.prog 7 c7 = some (c7, [.tmp 2], 30) := by kernel_rfl
theorem lw8 : rlF Try.prog 8 c8 = some (c8, [.cell 4 (some 22), .tmp 5], 80) := by kernel_rfl
theorem lw9 : rlF Try.prog 9 c9 = some (c9, [.tmp 2], 25) := by kernel_rfl
theorem lw10 : rlF Try.prog 10 c10 = some (c10, [.cell 6 (some 22), .tmp 7], 29) := by kernel_rfl
theorem lw11 : rlF Try.prog 11 c11 = some (c11, [.cell 6 (some 22), .tmp 7], 74) := by kernel_rfl
theorem lw12 : rlF Try.prog 12 c12 = some (c12, [.tmp 4], 26) := by kernel_rfl
theorem lw13 : rlF Try.prog 13 c13 = some (c13, [.tmp 4], 10) := by kernel_rfl
theorem lw14 : rlF Try.prog 14 c14 = some (c14, [.tmp 4], 14) := by kernel_rfl
theorem lw15 : rlF Try.prog 15 c15 = some (c15, [.tmp 4], 68) := by kernel_rfl
theorem lw16 : rlF Try.prog 16 c16 = some (c16, [.cell 2 (some 22), .tmp 3, .tmp 4], 41) := by kernel_rfl
theorem lw17 : rlF Try.prog 17 c17 = some (c17, [.tmp 2, .tmp 3], 51) := by kernel_rfl
theorem lw18 : rlF Try.prog 18 c18 = some (c18, [.tmp 2], 8) := by kernel_rfl
theorem lw19 : rlF Try.prog 19 c19 = some (c19, [.cell 2 (some 2), .tmp 3], 12) := by kernel_rfl
theorem lw20 : rlF Try.prog 20 c20 = some (c20, [.tmp 2], 9) := by kernel_rfl
theorem lw21 : rlF Try.prog 21 c21 = some (c21, [.tmp 2], 9) := by kernel_rfl
theorem lw22 : rlF Try.prog 22 c22 = some (c22, [.tmp 2], 59) := by kernel_rfl
theorem lw23 : rlF Try.prog 23 c23 = some (c23, [.tmp 4], 19) := by kernel_rfl
theorem lw24 : rlF Try.prog 24 c24 = some (c24, [.tmp 2], 21) := by kernel_rfl
theorem lw25 : rlF Try.prog 25 c25 = some (c25, [.tmp 4, .tmp 5], 46) := by kernel_rfl
theorem lw26 : rlF Try.prog 26 c26 = some (c26, [.tmp 6], 31) := by kernel_rfl
theorem lw27 : rlF Try.prog 27 c27 = some (c27, [.tmp 2], 8) := by kernel_rfl
theorem lw28 : rlF Try.prog 28 c28 = some (c28, [.tmp 4, .tmp 5], 58) := by kernel_rfl
theorem lw29 : rlF Try.prog 29 c29 = some (c29, [.tmp 4], 18) := by kernel_rfl
theorem lw30 : rlF Try.prog 30 c30 = some (c30, [], 13) := by kernel_rfl
theorem lw31 : rlF Try.prog 31 c31 = some (c31, [.tmp 4], 10) := by kernel_rfl
theorem lw32 : rlF Try.prog 32 c32 = some (c32, [.tmp 2], 10) := by kernel_rfl
theorem lw33 : rlF Try.prog 33 c33 = some (c33, [.tmp 2], 32) := by kernel_rfl
theorem lw34 : rlF Try.prog 34 c34 = some (c34, [.cell 4 (some 22), .tmp 5], 66) := by kernel_rfl
theorem lw35 : rlF Try.prog 35 c35 = some (c35, [.tmp 2], 6) := by kernel_rfl
theorem lw36 : rlF Try.prog 36 c36 = some (c36, [.cell 4 (some 22), .tmp 5], 20) := by kernel_rfl
theorem lw37 : rlF Try.prog 37 c37 = some (c37, [.tmp 4], 12) := by kernel_rfl
theorem lw38 : rlF Try.prog 38 c38 = some (c38, [.tmp 2], 4) := by kernel_rfl
theorem lw40 : rlF Try.prog 40 c40 = some (c40, [.tmp 4, .tmp 5], 11) := by kernel_rfl
theorem lw41 : rlF Try.prog 41 c41 = some (c41, [.tmp 4], 11) := by kernel_rfl
theorem lw42 : rlF Try.prog 42 c42 = some (c42, [.tmp 2], 8) := by kernel_rfl
theorem lw44 : rlF Try.prog 44 c44 = some (c44, [.tmp 4], 25) := by kernel_rfl
theorem lw45 : rlF Try.prog 45 c45 = some (c45, [.tmp 2], 24) := by kernel_rfl
theorem lw46 : rlF Try.prog 46 c46 = some (c46, [.tmp 4], 23) := by kernel_rfl
theorem lw47 : rlF Try.prog 47 c47 = some (c47, [.tmp 3], 16) := by kernel_rfl
theorem lw48 : rlF Try.prog 48 c48 = some (c48, [.tmp 2], 5) := by kernel_rfl
theorem lw50 : rlF Try.prog 50 c50 = some (c50, [], 16) := by kernel_rfl
theorem lw51 : rlF Try.prog 51 c51 = some (c51, [.tmp 6, .tmp 7], 49) := by kernel_rfl
theorem lw52 : rlF Try.prog 52 c52 = some (c52, [.tmp 4], 9) := by kernel_rfl
theorem lw53 : rlF Try.prog 53 c53 = some (c53, [.tmp 4], 20) := by kernel_rfl
theorem lw56 : rlF Try.prog 56 c56 = some (c56, [.tmp 4], 6) := by kernel_rfl
theorem lw57 : rlF Try.prog 57 c57 = some (c57, [.tmp 2], 18) := by kernel_rfl
theorem lw58 : rlF Try.prog 58 c58 = some (c58, [.tmp 4], 13) := by kernel_rfl
theorem lw61 : rlF Try.prog 61 c61 = some (c61, [.tmp 2], 6) := by kernel_rfl
theorem lw63 : rlF Try.prog 63 c63 = some (c63, [], 113) := by kernel_rfl
theorem lw64 : rlF Try.prog 64 c64 = some (c64, [.tmp 2], 36) := by kernel_rfl
end Go.Fx.P
