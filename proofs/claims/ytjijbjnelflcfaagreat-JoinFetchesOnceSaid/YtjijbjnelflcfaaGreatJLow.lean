import Derived.Test.YtjijbjnelflcfaaGreatJCode
import Derived.Test.YtjijbjnelflcfaaGreatProg
set_option linter.unusedVariables false
set_option linter.unusedSimpArgs false
set_option linter.unusedSectionVars false
namespace Go.Fx.J
open Go Go.Fx Go.Proofs
theorem pol : Tryz.prog.follows .mixedOrders = true := by kernel_rfl
theorem lw5 : rlF Tryz.prog 5 c5 = some (c5, [.tmp 4], 158) := by kernel_rfl
theorem lw9 : rlF Tryz.prog 9 c9 = some (c9, [.tmp 0], 174) := by kernel_rfl
theorem lw17 : rlF Tryz.prog 17 c17 = some (c17, [.tmp 4], 26) := by kernel_rfl
theorem lw22 : rlF Tryz.prog 22 c22 = some (c22, [.tmp 2], 41) := by kernel_rfl
theorem lw23 : rlF Tryz.prog 23 c23 = some (c23, [.tmp 2], 8) := by kernel_rfl
theorem lw24 : rlF Tryz.prog 24 c24 = some (c24, [.tmp 4], 80) := by kernel_rfl
theorem lw25 : rlF Tryz.prog 25 c25 = some (c25, [.tmp 2], 25) := by kernel_rfl
theorem lw26 : rlF Tryz.prog 26 c26 = some (c26, [.tmp 2], 20) := by kernel_rfl
theorem lw27 : rlF Tryz.prog 27 c27 = some (c27, [.tmp 6], 121) := by kernel_rfl
theorem lw36 : rlF Tryz.prog 36 c36 = some (c36, [.tmp 4], 9) := by kernel_rfl
theorem lw37 : rlF Tryz.prog 37 c37 = some (c37, [.tmp 2], 24) := by kernel_rfl
theorem lw38 : rlF Tryz.prog 38 c38 = some (c38, [.tmp 4, .tmp 5], 12) := by kernel_rfl
theorem lw40 : rlF Tryz.prog 40 c40 = some (c40, [.tmp 2], 8) := by kernel_rfl
theorem lw41 : rlF Tryz.prog 41 c41 = some (c41, [.cell 4 (some 2), .tmp 5], 33) := by kernel_rfl
theorem lw42 : rlF Tryz.prog 42 c42 = some (c42, [.tmp 4, .tmp 5], 12) := by kernel_rfl
theorem lw43 : rlF Tryz.prog 43 c43 = some (c43, [.tmp 4], 26) := by kernel_rfl
theorem lw44 : rlF Tryz.prog 44 c44 = some (c44, [.tmp 2], 19) := by kernel_rfl
theorem lw46 : rlF Tryz.prog 46 c46 = some (c46, [.tmp 2], 8) := by kernel_rfl
theorem lw47 : rlF Tryz.prog 47 c47 = some (c47, [.tmp 6], 48) := by kernel_rfl
theorem lw48 : rlF Tryz.prog 48 c48 = some (c48, [.tmp 4], 23) := by kernel_rfl
theorem lw53 : rlF Tryz.prog 53 c53 = some (c53, [.tmp 4], 45) := by kernel_rfl
theorem lw54 : rlF Tryz.prog 54 c54 = some (c54, [.tmp 4], 9) := by kernel_rfl
theorem lw56 : rlF Tryz.prog 56 c56 = some (c56, [.tmp 4], 25) := by kernel_rfl
theorem lw57 : rlF Tryz.prog 57 c57 = some (c57, [.tmp 2], 21) := by kernel_rfl
theorem lw62 : rlF Tryz.prog 62 c62 = some (c62, [.tmp 4], 42) := by kernel_rfl
theorem lw63 : rlF Tryz.prog 63 c63 = some (c63, [.tmp 4], 15) := by kernel_rfl
theorem lw64 : rlF Tryz.prog 64 c64 = some (c64, [.tmp 4], 11) := by kernel_rfl
theorem lw66 : rlF Tryz.prog 66 c66 = some (c66, [.tmp 2], 8) := by kernel_rfl
theorem lw67 : rlF Tryz.prog 67 c67 = some (c67, [.tmp 2], 15) := by kernel_rfl
theorem lw68 : rlF Tryz.prog 68 c68 = some (c68, [.tmp 4, .cell 5 (some 3), .tmp 6], 73) := by kernel_rfl
theorem lw69 : rlF Tryz.prog 69 c69 = some (c69, [.tmp 4], 18) := by kernel_rfl
theorem lw71 : rlF Tryz.prog 71 c71 = some (c71, [.tmp 2], 18) := by kernel_rfl
theorem lw72 : rlF Tryz.prog 72 c72 = some (c72, [.tmp 6, .tmp 7], 14) := by kernel_rfl
theorem lw73 : rlF Tryz.prog 73 c73 = some (c73, [.tmp 2], 5) := by kernel_rfl
theorem lw76 : rlF Tryz.prog 76 c76 = some (c76, [.tmp 2], 8) := by kernel_rfl
theorem lw77 : rlF Tryz.prog 77 c77 = some (c77, [.tmp 2], 8) := by kernel_rfl
theorem lw78 : rlF Tryz.prog 78 c78 = some (c78, [.tmp 6, .tmp 7], 14) := by kernel_rfl
theorem lw79 : rlF Tryz.prog 79 c79 = some (c79, [.tmp 2], 5) := by kernel_rfl
theorem lw80 : rlF Tryz.prog 80 c80 = some (c80, [.tmp 4], 6) := by kernel_rfl
theorem lw81 : rlF Tryz.prog 81 c81 = some (c81, [.tmp 2], 59) := by kernel_rfl
theorem lw82 : rlF Tryz.prog 82 c82 = some (c82, [.tmp 4], 11) := by kernel_rfl
theorem lw87 : rlF Tryz.prog 87 c87 = some (c87, [.tmp 4], 20) := by kernel_rfl
theorem lw88 : rlF Tryz.prog 88 c88 = some (c88, [.tmp 4], 63) := by kernel_rfl
theorem lw89 : rlF Tryz.prog 89 c89 = some (c89, [.tmp 4], 42) := by kernel_rfl
theorem lw90 : rlF Tryz.prog 90 c90 = some (c90, [.tmp 4], 14) := by kernel_rfl
theorem lw92 : rlF Tryz.prog 92 c92 = some (c92, [.tmp 4], 19) := by kernel_rfl
theorem lw93 : rlF Tryz.prog 93 c93 = some (c93, [.tmp 3], 8) := by kernel_rfl
theorem lw94 : rlF Tryz.prog 94 c94 = some (c94, [.tmp 2], 4) := by kernel_rfl
theorem lw95 : rlF Tryz.prog 95 c95 = some (c95, [.tmp 4], 19) := by kernel_rfl
theorem lw97 : rlF Tryz.prog 97 c97 = some (c97, [.tmp 6, .tmp 7], 49) := by kernel_rfl
theorem lw98 : rlF Tryz.prog 98 c98 = some (c98, [.tmp 5], 11) := by kernel_rfl
theorem lw99 : rlF Tryz.prog 99 c99 = some (c99, [.tmp 4], 20) := by kernel_rfl
theorem lw101 : rlF Tryz.prog 101 c101 = some (c101, [.tmp 6, .tmp 7], 49) := by kernel_rfl
theorem lw102 : rlF Tryz.prog 102 c102 = some (c102, [.tmp 5], 11) := by kernel_rfl
theorem lw103 : rlF Tryz.prog 103 c103 = some (c103, [], 113) := by kernel_rfl
theorem lw104 : rlF Tryz.prog 104 c104 = some (c104, [.tmp 2], 36) := by kernel_rfl
theorem lw107 : rlF Tryz.prog 107 c107 = some (c107, [.tmp 4], 12) := by kernel_rfl
theorem lw108 : rlF Tryz.prog 108 c108 = some (c108, [.tmp 2], 4) := by kernel_rfl
theorem lw113 : rlF Tryz.prog 113 c113 = some (c113, [.tmp 2], 6) := by kernel_rfl
theorem lw114 : rlF Tryz.prog 114 c114 = some (c114, [], 18) := by kernel_rfl
theorem lw115 : rlF Tryz.prog 115 c115 = some (c115, [.tmp 2], 6) := by kernel_rfl
theorem lw119 : rlF Tryz.prog 119 c119 = some (c119, [.tmp 2], 5) := by kernel_rfl
theorem lw121 : rlF Tryz.prog 121 c121 = some (c121, [], 16) := by kernel_rfl
theorem lw142 : rlF Tryz.prog 142 c142 = some (c142, [.tmp 4], 13) := by kernel_rfl
end Go.Fx.J
