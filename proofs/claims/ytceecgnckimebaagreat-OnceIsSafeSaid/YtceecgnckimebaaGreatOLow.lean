import Derived.Test.YtceecgnckimebaaGreatOCode
import Derived.Test.YtceecgnckimebaaGreatProg
set_option linter.unusedVariables false
set_option linter.unusedSimpArgs false
set_option linter.unusedSectionVars false
namespace Go.Fx.O
open Go Go.Fx Go.Proofs
theorem pol : Tryz.prog.follows .mixedOrders = true := by kernel_rfl
theorem lw5 : rlF Tryz.prog 5 c5 = some (c5, [.tmp 4], 71) := by kernel_rfl
theorem lw8 : rlF Tryz.prog 8 c8 = some (c8, [.tmp 2], 110) := by kernel_rfl
theorem lw9 : rlF Tryz.prog 9 c9 = some (c9, [.tmp 0], 195) := by kernel_rfl
theorem lw10 : rlF Tryz.prog 10 c10 = some (c10, [.cell 2 (some 22), .tmp 3, .tmp 4], 41) := by kernel_rfl
theorem lw11 : rlF Tryz.prog 11 c11 = some (c11, [.cell 6 (some 22), .tmp 7], 74) := by kernel_rfl
theorem lw15 : rlF Tryz.prog 15 c15 = some (c15, [.tmp 4], 68) := by kernel_rfl
theorem lw16 : rlF Tryz.prog 16 c16 = some (c16, [.tmp 2], 30) := by kernel_rfl
theorem lw18 : rlF Tryz.prog 18 c18 = some (c18, [.cell 4 (some 22), .tmp 5], 80) := by kernel_rfl
theorem lw20 : rlF Tryz.prog 20 c20 = some (c20, [.tmp 4], 26) := by kernel_rfl
theorem lw21 : rlF Tryz.prog 21 c21 = some (c21, [.tmp 4], 14) := by kernel_rfl
theorem lw23 : rlF Tryz.prog 23 c23 = some (c23, [.cell 2 (some 3)], 30) := by kernel_rfl
theorem lw24 : rlF Tryz.prog 24 c24 = some (c24, [], 178) := by kernel_rfl
theorem lw25 : rlF Tryz.prog 25 c25 = some (c25, [.tmp 2, .tmp 3], 51) := by kernel_rfl
theorem lw26 : rlF Tryz.prog 26 c26 = some (c26, [.tmp 2], 25) := by kernel_rfl
theorem lw27 : rlF Tryz.prog 27 c27 = some (c27, [.tmp 4], 10) := by kernel_rfl
theorem lw28 : rlF Tryz.prog 28 c28 = some (c28, [.tmp 4], 55) := by kernel_rfl
theorem lw29 : rlF Tryz.prog 29 c29 = some (c29, [.cell 6 (some 22), .tmp 7], 29) := by kernel_rfl
theorem lw32 : rlF Tryz.prog 32 c32 = some (c32, [.tmp 2], 33) := by kernel_rfl
theorem lw33 : rlF Tryz.prog 33 c33 = some (c33, [.tmp 2], 9) := by kernel_rfl
theorem lw34 : rlF Tryz.prog 34 c34 = some (c34, [.tmp 4], 10) := by kernel_rfl
theorem lw35 : rlF Tryz.prog 35 c35 = some (c35, [.tmp 4], 55) := by kernel_rfl
theorem lw36 : rlF Tryz.prog 36 c36 = some (c36, [.tmp 4], 24) := by kernel_rfl
theorem lw37 : rlF Tryz.prog 37 c37 = some (c37, [.tmp 6], 26) := by kernel_rfl
theorem lw38 : rlF Tryz.prog 38 c38 = some (c38, [.tmp 4, .tmp 5], 46) := by kernel_rfl
theorem lw39 : rlF Tryz.prog 39 c39 = some (c39, [.tmp 4], 18) := by kernel_rfl
theorem lw40 : rlF Tryz.prog 40 c40 = some (c40, [.tmp 4], 19) := by kernel_rfl
theorem lw41 : rlF Tryz.prog 41 c41 = some (c41, [.tmp 2], 9) := by kernel_rfl
theorem lw42 : rlF Tryz.prog 42 c42 = some (c42, [.tmp 2], 21) := by kernel_rfl
theorem lw43 : rlF Tryz.prog 43 c43 = some (c43, [.tmp 6], 31) := by kernel_rfl
theorem lw44 : rlF Tryz.prog 44 c44 = some (c44, [.tmp 2], 8) := by kernel_rfl
theorem lw46 : rlF Tryz.prog 46 c46 = some (c46, [.tmp 4], 23) := by kernel_rfl
theorem lw50 : rlF Tryz.prog 50 c50 = some (c50, [.tmp 2], 8) := by kernel_rfl
theorem lw51 : rlF Tryz.prog 51 c51 = some (c51, [.cell 2 (some 2), .tmp 3], 12) := by kernel_rfl
theorem lw52 : rlF Tryz.prog 52 c52 = some (c52, [.tmp 2], 9) := by kernel_rfl
theorem lw53 : rlF Tryz.prog 53 c53 = some (c53, [.tmp 2], 9) := by kernel_rfl
theorem lw55 : rlF Tryz.prog 55 c55 = some (c55, [.tmp 4, .tmp 5], 58) := by kernel_rfl
theorem lw56 : rlF Tryz.prog 56 c56 = some (c56, [], 13) := by kernel_rfl
theorem lw57 : rlF Tryz.prog 57 c57 = some (c57, [.tmp 4], 10) := by kernel_rfl
theorem lw58 : rlF Tryz.prog 58 c58 = some (c58, [.tmp 2], 59) := by kernel_rfl
theorem lw59 : rlF Tryz.prog 59 c59 = some (c59, [.tmp 2], 32) := by kernel_rfl
theorem lw61 : rlF Tryz.prog 61 c61 = some (c61, [.tmp 2], 8) := by kernel_rfl
theorem lw62 : rlF Tryz.prog 62 c62 = some (c62, [.tmp 4, .tmp 5], 11) := by kernel_rfl
theorem lw63 : rlF Tryz.prog 63 c63 = some (c63, [.tmp 2], 41) := by kernel_rfl
theorem lw64 : rlF Tryz.prog 64 c64 = some (c64, [.tmp 4], 10) := by kernel_rfl
theorem lw65 : rlF Tryz.prog 65 c65 = some (c65, [.tmp 4], 11) := by kernel_rfl
theorem lw67 : rlF Tryz.prog 67 c67 = some (c67, [.tmp 4], 63) := by kernel_rfl
theorem lw69 : rlF Tryz.prog 69 c69 = some (c69, [.tmp 2], 10) := by kernel_rfl
theorem lw70 : rlF Tryz.prog 70 c70 = some (c70, [.cell 4 (some 22), .tmp 5], 66) := by kernel_rfl
theorem lw71 : rlF Tryz.prog 71 c71 = some (c71, [.tmp 2], 6) := by kernel_rfl
theorem lw72 : rlF Tryz.prog 72 c72 = some (c72, [.cell 4 (some 22), .tmp 5], 20) := by kernel_rfl
theorem lw73 : rlF Tryz.prog 73 c73 = some (c73, [.tmp 4], 25) := by kernel_rfl
theorem lw74 : rlF Tryz.prog 74 c74 = some (c74, [.tmp 4], 12) := by kernel_rfl
theorem lw75 : rlF Tryz.prog 75 c75 = some (c75, [.tmp 2], 4) := by kernel_rfl
theorem lw77 : rlF Tryz.prog 77 c77 = some (c77, [.tmp 2], 24) := by kernel_rfl
theorem lw78 : rlF Tryz.prog 78 c78 = some (c78, [.tmp 6, .tmp 7], 49) := by kernel_rfl
theorem lw79 : rlF Tryz.prog 79 c79 = some (c79, [.tmp 4], 9) := by kernel_rfl
theorem lw80 : rlF Tryz.prog 80 c80 = some (c80, [.tmp 4], 20) := by kernel_rfl
theorem lw81 : rlF Tryz.prog 81 c81 = some (c81, [.tmp 2], 8) := by kernel_rfl
theorem lw82 : rlF Tryz.prog 82 c82 = some (c82, [.tmp 2], 15) := by kernel_rfl
theorem lw85 : rlF Tryz.prog 85 c85 = some (c85, [.tmp 4], 23) := by kernel_rfl
theorem lw86 : rlF Tryz.prog 86 c86 = some (c86, [.tmp 3], 16) := by kernel_rfl
theorem lw87 : rlF Tryz.prog 87 c87 = some (c87, [.tmp 4], 6) := by kernel_rfl
theorem lw88 : rlF Tryz.prog 88 c88 = some (c88, [.tmp 2], 5) := by kernel_rfl
theorem lw90 : rlF Tryz.prog 90 c90 = some (c90, [], 16) := by kernel_rfl
theorem lw91 : rlF Tryz.prog 91 c91 = some (c91, [.tmp 2], 18) := by kernel_rfl
theorem lw92 : rlF Tryz.prog 92 c92 = some (c92, [.tmp 2], 6) := by kernel_rfl
theorem lw94 : rlF Tryz.prog 94 c94 = some (c94, [], 113) := by kernel_rfl
theorem lw95 : rlF Tryz.prog 95 c95 = some (c95, [.tmp 2], 36) := by kernel_rfl
theorem lw98 : rlF Tryz.prog 98 c98 = some (c98, [.tmp 4], 13) := by kernel_rfl
end Go.Fx.O
