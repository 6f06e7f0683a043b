import Derived.Test.YtgahgbpccjcmmaaDCode
import Derived.Test.YtgahgbpccjcmmaaProg
set_option linter.unusedVariables false
set_option linter.unusedSimpArgs false
set_option linter.unusedSectionVars false
namespace Go.Fx.D
open Go Go.Fx Go.Proofs
theorem pol : Try.prog.follows .mixedOrders = true := by kernel_rfl
theorem lw3 : rlF Try.prog 3 c3 = some (c3, [.tmp 4], 89) := by kernel_rfl
theorem lw7 : rlF Try.prog 7 c7 = some (c7, [.tmp 2], 14) := by kernel_rfl
theorem lw8 : rlF Try.prog 8 c8 = some (c8, [.tmp 0], 186) := by kernel_rfl
theorem lw9 : rlF Try.prog 9 c9 = some (c9, [.tmp 2], 13) := by kernel_rfl
theorem lw10 : rlF Try.prog 10 c10 = some (c10, [.tmp 6, .tmp 7, .tmp 8], 162) := by kernel_rfl
theorem lw11 : rlF Try.prog 11 c11 = some (c11, [.cell 4 (some 64), .tmp 5], 47) := by kernel_rfl
theorem lw12 : rlF Try.prog 12 c12 = some (c12, [.cell 4 (some 65)], 40) := by kernel_rfl
theorem lw14 : rlF Try.prog 14 c14 = some (c14, [.tmp 4], 65) := by kernel_rfl
theorem lw15 : rlF Try.prog 15 c15 = some (c15, [.tmp 2], 8) := by kernel_rfl
theorem lw16 : rlF Try.prog 16 c16 = some (c16, [.tmp 2], 7) := by kernel_rfl
theorem lw17 : rlF Try.prog 17 c17 = some (c17, [.tmp 2], 7) := by kernel_rfl
theorem lw18 : rlF Try.prog 18 c18 = some (c18, [.tmp 2], 27) := by kernel_rfl
theorem lw20 : rlF Try.prog 20 c20 = some (c20, [], 9) := by kernel_rfl
theorem lw21 : rlF Try.prog 21 c21 = some (c21, [.tmp 2], 43) := by kernel_rfl
theorem lw22 : rlF Try.prog 22 c22 = some (c22, [.tmp 6], 32) := by kernel_rfl
theorem lw23 : rlF Try.prog 23 c23 = some (c23, [.cell 2 (some 64)], 14) := by kernel_rfl
theorem lw24 : rlF Try.prog 24 c24 = some (c24, [.tmp 6], 49) := by kernel_rfl
theorem lw25 : rlF Try.prog 25 c25 = some (c25, [.tmp 4], 19) := by kernel_rfl
theorem lw26 : rlF Try.prog 26 c26 = some (c26, [.tmp 4], 26) := by kernel_rfl
theorem lw27 : rlF Try.prog 27 c27 = some (c27, [.tmp 6], 39) := by kernel_rfl
theorem lw28 : rlF Try.prog 28 c28 = some (c28, [.tmp 2], 53) := by kernel_rfl
theorem lw29 : rlF Try.prog 29 c29 = some (c29, [], 9) := by kernel_rfl
theorem lw30 : rlF Try.prog 30 c30 = some (c30, [.tmp 4], 77) := by kernel_rfl
theorem lw31 : rlF Try.prog 31 c31 = some (c31, [.tmp 6], 54) := by kernel_rfl
theorem lw32 : rlF Try.prog 32 c32 = some (c32, [.tmp 4], 27) := by kernel_rfl
theorem lw33 : rlF Try.prog 33 c33 = some (c33, [.tmp 2], 33) := by kernel_rfl
theorem lw34 : rlF Try.prog 34 c34 = some (c34, [.tmp 4], 22) := by kernel_rfl
theorem lw35 : rlF Try.prog 35 c35 = some (c35, [.tmp 4], 20) := by kernel_rfl
theorem lw36 : rlF Try.prog 36 c36 = some (c36, [.tmp 2], 21) := by kernel_rfl
theorem lw37 : rlF Try.prog 37 c37 = some (c37, [.cell 6 (some 65)], 67) := by kernel_rfl
theorem lw38 : rlF Try.prog 38 c38 = some (c38, [.tmp 4], 48) := by kernel_rfl
theorem lw39 : rlF Try.prog 39 c39 = some (c39, [.tmp 2], 32) := by kernel_rfl
theorem lw40 : rlF Try.prog 40 c40 = some (c40, [.tmp 2], 32) := by kernel_rfl
theorem lw41 : rlF Try.prog 41 c41 = some (c41, [.cell 4 (some 66)], 75) := by kernel_rfl
theorem lw42 : rlF Try.prog 42 c42 = some (c42, [], 11) := by kernel_rfl
theorem lw43 : rlF Try.prog 43 c43 = some (c43, [.tmp 4, .tmp 5], 30) := by kernel_rfl
theorem lw44 : rlF Try.prog 44 c44 = some (c44, [], 134) := by kernel_rfl
theorem lw45 : rlF Try.prog 45 c45 = some (c45, [.tmp 2], 8) := by kernel_rfl
theorem lw46 : rlF Try.prog 46 c46 = some (c46, [.tmp 4, .tmp 5], 17) := by kernel_rfl
theorem lw47 : rlF Try.prog 47 c47 = some (c47, [.tmp 4, .tmp 5], 51) := by kernel_rfl
theorem lw48 : rlF Try.prog 48 c48 = some (c48, [], 49) := by kernel_rfl
theorem lw49 : rlF Try.prog 49 c49 = some (c49, [], 56) := by kernel_rfl
theorem lw50 : rlF Try.prog 50 c50 = some (c50, [], 65) := by kernel_rfl
theorem lw51 : rlF Try.prog 51 c51 = some (c51, [.tmp 6, .tmp 7], 57) := by kernel_rfl
theorem lw52 : rlF Try.prog 52 c52 = some (c52, [], 32) := by kernel_rfl
theorem lw53 : rlF Try.prog 53 c53 = some (c53, [.tmp 6], 133) := by kernel_rfl
theorem lw54 : rlF Try.prog 54 c54 = some (c54, [.tmp 4], 17) := by kernel_rfl
theorem lw55 : rlF Try.prog 55 c55 = some (c55, [.tmp 8], 84) := by kernel_rfl
theorem lw56 : rlF Try.prog 56 c56 = some (c56, [.tmp 8, .tmp 9], 168) := by kernel_rfl
theorem lw57 : rlF Try.prog 57 c57 = some (c57, [.tmp 2], 19) := by kernel_rfl
theorem lw58 : rlF Try.prog 58 c58 = some (c58, [.tmp 2], 25) := by kernel_rfl
theorem lw59 : rlF Try.prog 59 c59 = some (c59, [], 76) := by kernel_rfl
theorem lw60 : rlF Try.prog 60 c60 = some (c60, [.tmp 2], 7) := by kernel_rfl
theorem lw61 : rlF Try.prog 61 c61 = some (c61, [.tmp 2], 33) := by kernel_rfl
theorem lw62 : rlF Try.prog 62 c62 = some (c62, [.tmp 6], 15) := by kernel_rfl
theorem lw63 : rlF Try.prog 63 c63 = some (c63, [.tmp 10], 36) := by kernel_rfl
theorem lw64 : rlF Try.prog 64 c64 = some (c64, [.tmp 2], 6) := by kernel_rfl
theorem lw65 : rlF Try.prog 65 c65 = some (c65, [.tmp 8, .tmp 9], 28) := by kernel_rfl
end Go.Fx.D
