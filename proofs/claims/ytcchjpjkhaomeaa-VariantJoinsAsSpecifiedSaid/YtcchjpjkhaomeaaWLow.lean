import Derived.Test.YtcchjpjkhaomeaaWCode
import Derived.Test.YtcchjpjkhaomeaaProg
set_option linter.unusedVariables false
set_option linter.unusedSimpArgs false
set_option linter.unusedSectionVars false
namespace Go.Fx.W
open Go Go.Fx Go.Proofs
theorem pol : Try.prog.follows .mixedOrders = true := by kernel_rfl
theorem lw8 : rlF Try.prog 8 c8 = some (c8, [.tmp 8], 95) := by kernel_rfl
theorem lw9 : rlF Try.prog 9 c9 = some (c9, [.tmp 0], 97) := by kernel_rfl
theorem lw10 : rlF Try.prog 10 c10 = some (c10, [.tmp 2], 29) := by kernel_rfl
theorem lw11 : rlF Try.prog 11 c11 = some (c11, [.tmp 2], 91) := by kernel_rfl
theorem lw12 : rlF Try.prog 12 c12 = some (c12, [.tmp 2], 9) := by kernel_rfl
theorem lw14 : rlF Try.prog 14 c14 = some (c14, [.tmp 4], 28) := by kernel_rfl
theorem lw15 : rlF Try.prog 15 c15 = some (c15, [.tmp 6], 14) := by kernel_rfl
theorem lw16 : rlF Try.prog 16 c16 = some (c16, [.tmp 4, .tmp 5], 69) := by kernel_rfl
theorem lw18 : rlF Try.prog 18 c18 = some (c18, [.tmp 4], 28) := by kernel_rfl
theorem lw20 : rlF Try.prog 20 c20 = some (c20, [.tmp 4], 26) := by kernel_rfl
theorem lw21 : rlF Try.prog 21 c21 = some (c21, [.tmp 2, .tmp 3], 27) := by kernel_rfl
theorem lw23 : rlF Try.prog 23 c23 = some (c23, [.tmp 4], 18) := by kernel_rfl
theorem lw24 : rlF Try.prog 24 c24 = some (c24, [.tmp 4, .tmp 5, .tmp 6], 67) := by kernel_rfl
theorem lw27 : rlF Try.prog 27 c27 = some (c27, [.tmp 4], 70) := by kernel_rfl
theorem lw28 : rlF Try.prog 28 c28 = some (c28, [.tmp 4], 71) := by kernel_rfl
theorem lw29 : rlF Try.prog 29 c29 = some (c29, [.tmp 4], 55) := by kernel_rfl
theorem lw30 : rlF Try.prog 30 c30 = some (c30, [.tmp 4], 9) := by kernel_rfl
theorem lw31 : rlF Try.prog 31 c31 = some (c31, [.tmp 2], 7) := by kernel_rfl
theorem lw32 : rlF Try.prog 32 c32 = some (c32, [.tmp 4], 56) := by kernel_rfl
theorem lw33 : rlF Try.prog 33 c33 = some (c33, [.tmp 2], 41) := by kernel_rfl
theorem lw34 : rlF Try.prog 34 c34 = some (c34, [.tmp 4], 20) := by kernel_rfl
theorem lw35 : rlF Try.prog 35 c35 = some (c35, [.tmp 2], 28) := by kernel_rfl
theorem lw37 : rlF Try.prog 37 c37 = some (c37, [.tmp 4], 33) := by kernel_rfl
theorem lw38 : rlF Try.prog 38 c38 = some (c38, [.tmp 4, .tmp 5], 11) := by kernel_rfl
theorem lw40 : rlF Try.prog 40 c40 = some (c40, [.tmp 4], 19) := by kernel_rfl
theorem lw41 : rlF Try.prog 41 c41 = some (c41, [.tmp 2], 12) := by kernel_rfl
theorem lw42 : rlF Try.prog 42 c42 = some (c42, [.tmp 4], 11) := by kernel_rfl
theorem lw44 : rlF Try.prog 44 c44 = some (c44, [.tmp 4], 19) := by kernel_rfl
theorem lw45 : rlF Try.prog 45 c45 = some (c45, [.tmp 3], 9) := by kernel_rfl
theorem lw46 : rlF Try.prog 46 c46 = some (c46, [.tmp 4], 9) := by kernel_rfl
theorem lw49 : rlF Try.prog 49 c49 = some (c49, [], 41) := by kernel_rfl
theorem lw50 : rlF Try.prog 50 c50 = some (c50, [.tmp 4], 43) := by kernel_rfl
theorem lw51 : rlF Try.prog 51 c51 = some (c51, [.tmp 4], 67) := by kernel_rfl
theorem lw52 : rlF Try.prog 52 c52 = some (c52, [.tmp 2], 8) := by kernel_rfl
theorem lw53 : rlF Try.prog 53 c53 = some (c53, [.tmp 4], 8) := by kernel_rfl
theorem lw54 : rlF Try.prog 54 c54 = some (c54, [.tmp 4], 14) := by kernel_rfl
theorem lw55 : rlF Try.prog 55 c55 = some (c55, [.tmp 4], 19) := by kernel_rfl
theorem lw56 : rlF Try.prog 56 c56 = some (c56, [.tmp 2], 5) := by kernel_rfl
theorem lw57 : rlF Try.prog 57 c57 = some (c57, [.tmp 2], 5) := by kernel_rfl
theorem lw59 : rlF Try.prog 59 c59 = some (c59, [.tmp 4, .tmp 5], 15) := by kernel_rfl
theorem lw64 : rlF Try.prog 64 c64 = some (c64, [.tmp 4], 19) := by kernel_rfl
theorem lw65 : rlF Try.prog 65 c65 = some (c65, [.tmp 3], 8) := by kernel_rfl
theorem lw67 : rlF Try.prog 67 c67 = some (c67, [.tmp 2], 61) := by kernel_rfl
theorem lw68 : rlF Try.prog 68 c68 = some (c68, [.tmp 4], 26) := by kernel_rfl
theorem lw69 : rlF Try.prog 69 c69 = some (c69, [.tmp 2], 21) := by kernel_rfl
theorem lw70 : rlF Try.prog 70 c70 = some (c70, [.tmp 2], 9) := by kernel_rfl
theorem lw72 : rlF Try.prog 72 c72 = some (c72, [.tmp 4], 18) := by kernel_rfl
end Go.Fx.W
